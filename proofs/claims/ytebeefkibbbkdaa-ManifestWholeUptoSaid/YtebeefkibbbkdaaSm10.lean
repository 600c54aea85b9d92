import Derived.Test.YtebeefkibbbkdaaSm9
/- A disk in memory. -/
namespace Go.Proofs.Ytebeefkibbbkdaa
open Go.RowKit Go.Maps

/-- A name with its file's block, for its number. -/
def bk (fb : List Nat) (p : KE) : KE := (p.1, fb.getD p.2 0)
def bkD (fb : List Nat) : DC → DC
  | .inl (n, f) => .inl (n, fb.getD f 0)
  | .inr x => .inr x
section
variable {fb : List Nat} {k : ByteArray} {e : Nat} {l : List KE}
theorem lo_map : lo k (l.map (bk fb)) = (lo k l).map (bk fb) := by
  unfold lo; rw [List.filter_map]; rfl
theorem hi_map : hi k (l.map (bk fb)) = (hi k l).map (bk fb) := by
  unfold hi; rw [List.filter_map]; rfl
theorem put_map : (putL k e l).map (bk fb) = putL k (fb.getD e 0) (l.map (bk fb)) := by
  unfold putL; rw [lo_map, hi_map, List.map_append, List.map_cons]; rfl
theorem del_map : (delL k l).map (bk fb) = delL k (l.map (bk fb)) := by
  unfold delL; rw [lo_map, hi_map, List.map_append]
theorem get_map : getL k (l.map (bk fb)) = (getL k l).map (fb.getD · 0) := by
  unfold getL
  rw [List.find?_map]
  simp only [Option.map_map]
  rfl
theorem sorted_map (h : Sorted l) : Sorted (l.map (bk fb)) := by
  unfold Sorted; rw [List.pairwise_map]; exact h
theorem ddo_map {c : DC} (hc : canD l c) : (ddo l c).map (bk fb) = ddo (l.map (bk fb)) (bkD fb c) := by
  match c with
  | .inl (n, f) => exact put_map
  | .inr (.inr n) => exact del_map
  | .inr (.inl (a, b)) =>
    obtain ⟨_, f, hf⟩ := hc a b rfl
    show (delL a (putL b ((getL a l).getD 0) l)).map (bk fb) = delL a (putL b ((getL a (l.map (bk fb))).getD 0) (l.map (bk fb)))
    rw [del_map, put_map, get_map, hf]
    rfl
theorem fold_map : ∀ {cs : List DC} {l : List KE}, okD l cs → (cs.foldl ddo l).map (bk fb) = (cs.map (bkD fb)).foldl ddo (l.map (bk fb))
  | [], _, _ => rfl
  | c :: cs, l, h => by
    rw [List.foldl_cons, List.map_cons, List.foldl_cons, ← ddo_map h.1]
    exact fold_map h.2
theorem okD_map : ∀ {cs : List DC} {l : List KE}, okD l cs → okD (l.map (bk fb)) (cs.map (bkD fb))
  | [], _, _ => trivial
  | c :: cs, l, h => by
    refine ⟨fun a b e => ?_, ?_⟩
    · have e' : c = .inr (.inl (a, b)) := by
        match c, e with
        | .inr x, e => exact e
      obtain ⟨h1, f, h2⟩ := h.1 a b e'
      exact ⟨h1, fb.getD f 0, by rw [get_map, h2]; rfl⟩
    · have := ddo_map (fb := fb) h.1
      show okD (ddo (l.map (bk fb)) (bkD fb c)) (cs.map (bkD fb))
      rw [← this]
      exact okD_map h.2
end
theorem put_len' (k : ByteArray) (e : Nat) (l : List KE) : (putL k e l).length ≤ l.length + 1 := put_len k e l
theorem ddo_len (l : List KE) (c : DC) : (ddo l c).length ≤ l.length + 1 := by
  match c with
  | .inl (n, f) => exact put_len n f l
  | .inr (.inl (a, b)) =>
    have h1 := put_len b ((getL a l).getD 0) l
    have h2 := del_len a (putL b ((getL a l).getD 0) l)
    show (delL a _).length ≤ _
    omega
  | .inr (.inr n) => have := del_len n l; show (delL n l).length ≤ _; omega
theorem fold_len : ∀ (cs : List DC) (l : List KE), (cs.foldl ddo l).length ≤ l.length + cs.length
  | [], l => by simp
  | c :: cs, l => by
    have h1 := fold_len cs (ddo l c)
    have h2 := ddo_len l c
    simp only [List.foldl_cons, List.length_cons]
    omega

/-- What always holds of a disk. -/
structure Dk.Ok (s : Dk) : Prop where
  sorted : Sorted s.safe
  okd : okD s.safe s.dchs
  names : ∀ p ∈ s.safe, goodN p.1 = true
  dnames : ∀ c ∈ s.dchs, match c with
    | .inl (n, _) => goodN n = true
    | .inr (.inl (a, b)) => goodN a = true ∧ goodN b = true
    | .inr (.inr n) => goodN n = true
  okf : ∀ x ∈ s.files, okF x.safe x.chs
/-- How much a disk has: at most N changes of each kind, at most M bytes of a file at any time. -/
structure Dk.Sz (s : Dk) (N M : Nat) : Prop where
  d : s.safe.length + s.dchs.length ≤ N
  f : ∀ x ∈ s.files, x.chs.length ≤ N
  m : ∀ x ∈ s.files, Short x M
theorem dcOk_of {c : DC} {s : Dk} (h : s.Ok) (hc : c ∈ s.dchs) (fb : List Nat) : dcOk (bkD fb c) := by
  have := h.dnames c hc
  match c, this with
  | .inl (n, f), h => exact (goodN_size h).2
  | .inr (.inl (a, b)), h => exact ⟨(goodN_size h.1).2, (goodN_size h.2).2⟩
  | .inr (.inr n), h => exact (goodN_size h).2

/-- A disk in memory; whose each block is, L tells: 1 the disk, 2 and 3 its maps, 4 its changes, from 8 on its files. -/
structure DM (w : World) (L : Nat → Nat) (d : Nat) (fb : List Nat) (s : Dk) (ms mf : Nat) (vc : Value) : Prop where
  box : Box w d 72 (dxc ms mf vc (s.quota, s.used, s.fuse, s.dead, s.ops))
  ld : L d = 1
  lms : L ms = 2
  lmf : L mf = 3
  seen : MD w ms (s.seen.map (bk fb))
  safe : MD w mf (s.safe.map (bk fb))
  rc : w.ownsRow 0 148 1 vc s.dchs.length ((s.dchs.map (bkD fb)).map dv)
  lc : ∀ b, vc.ownBlock = some b → L b = 4
  fl : fb.length = s.files.length
  files : ∀ k x, s.files[k]? = some x → ∃ vs vf vcc us, FM w L (fb.getD k 0) k x vs vf vcc us
  lab : ∀ b, L b ≠ 0 → b < w.heap.size
  ids : ∀ p ∈ s.safe, p.2 < s.files.length
  dids : ∀ n f, (.inl (n, f) : DC) ∈ s.dchs → f < s.files.length
/-- A disk at d, with the blocks of S. -/
def Disk (w : World) (S : Nat → Prop) (d : Nat) (s : Dk) : Prop := ∃ L fb ms mf vc, DM w L d fb s ms mf vc ∧ ∀ b, S b ↔ L b ≠ 0
section
variable {w w' : World} {L L' : Nat → Nat} {d ms mf : Nat} {fb : List Nat} {s : Dk} {vc : Value} {S : Nat → Prop}
/-- While none of its blocks turns, the disk stays. -/
theorem DM.keep (h : DM w L d fb s ms mf vc) (hz : w.heap.size ≤ w'.heap.size) (hk : ∀ b, L b ≠ 0 → w'.heap[b]? = w.heap[b]?) : DM w' L d fb s ms mf vc := by
  refine ⟨(hk d (by rw [h.ld]; omega)).trans h.box, h.ld, h.lms, h.lmf, h.seen.keep (hk ms (by rw [h.lms]; omega)), h.safe.keep (hk mf (by rw [h.lmf]; omega)), row_block h.rc fun b hb => hk b (by rw [h.lc b hb]; omega), h.lc, h.fl, fun k x hx => ?_, fun b hb => Nat.lt_of_lt_of_le (h.lab b hb) hz, h.ids, h.dids⟩
  obtain ⟨vs, vf, vcc, us, hF⟩ := h.files k x hx
  exact ⟨vs, vf, vcc, us, hF.keep hz (fun b _ h1 _ => hk b (by omega)) (fun _ _ => rfl)⟩
theorem Disk.keep (h : Disk w S d s) (hz : w.heap.size ≤ w'.heap.size) (hk : ∀ b, S b → w'.heap[b]? = w.heap[b]?) : Disk w' S d s := by
  obtain ⟨L, fb, ms, mf, vc, hD, hS⟩ := h
  exact ⟨L, fb, ms, mf, vc, hD.keep hz fun b hb => hk b ((hS b).2 hb), hS⟩
theorem Disk.lt (h : Disk w S d s) : ∀ b, S b → b < w.heap.size := by
  obtain ⟨L, fb, ms, mf, vc, hD, hS⟩ := h
  exact fun b hb => hD.lab b ((hS b).1 hb)
theorem Disk.next (h : Disk w S d s) (hb : Below w.heap.size w w') : Disk w' S d s := h.keep hb.size fun b hS => hb.block b (h.lt b hS)
theorem Disk.chg {S' : Nat → Prop} (h : Disk w S d s) (hc : Chg S' w w') (hn : ∀ b, S b → ¬ S' b) : Disk w' S d s := h.keep hc.size fun b hb => hc.block b (h.lt b hb) (hn b hb)
theorem Disk.at_ (h : Disk w S d s) : S d ∧ ∃ ms mf vc, Box w d 72 (dxc ms mf vc (s.quota, s.used, s.fuse, s.dead, s.ops)) := by
  obtain ⟨L, fb, ms, mf, vc, hD, hS⟩ := h
  exact ⟨(hS d).2 (by rw [hD.ld]; omega), ms, mf, vc, hD.box⟩
end
theorem ids_put {k : ByteArray} {e n : Nat} {l : List KE} (h : ∀ p ∈ l, p.2 < n) (he : e < n) : ∀ p ∈ putL k e l, p.2 < n := fun p hp => by
  rcases mem_put.1 hp with rfl | hp
  · exact he
  · exact h p hp.1
theorem ids_ddo {l : List KE} {c : DC} {n : Nat} (h : ∀ p ∈ l, p.2 < n) (hc : ∀ m f, c = .inl (m, f) → f < n) (hok : Sorted l) (hcan : canD l c) : ∀ p ∈ ddo l c, p.2 < n := by
  match c with
  | .inl (m, f) => exact ids_put h (hc m f rfl)
  | .inr (.inr m) => exact fun p hp => h p (mem_del.1 hp).1
  | .inr (.inl (a, b)) =>
    obtain ⟨_, f, hf⟩ := hcan a b rfl
    have hm := (get_mem hok).1 hf
    refine fun p hp => ids_put h ?_ p (mem_del.1 hp).1
    rw [hf]
    exact h _ hm
theorem ids_fold {n : Nat} : ∀ {cs : List DC} {l : List KE}, (∀ p ∈ l, p.2 < n) → (∀ m f, (.inl (m, f) : DC) ∈ cs → f < n) → Sorted l → okD l cs → ∀ p ∈ cs.foldl ddo l, p.2 < n
  | [], _, h, _, _, _ => h
  | c :: cs, l, h, hc, hs, hok => ids_fold (cs := cs) (ids_ddo h (fun m f e => hc m f (by simp [e])) hs hok.1) (fun m f hm => hc m f (by simp [hm])) (hs.ddo c) hok.2
theorem DM.seen_ids {w : World} {L : Nat → Nat} {d ms mf : Nat} {fb : List Nat} {s : Dk} {vc : Value} (h : DM w L d fb s ms mf vc) (hok : s.Ok) : ∀ p ∈ s.seen, p.2 < s.files.length := ids_fold h.ids h.dids hok.sorted hok.okd

set_option maxRecDepth 100000 in
theorem ready_any (S : Nat → Prop) (d : Nat) (s : Dk) (w : World) (h : Disk w S d s) : Calls Try.prog 81 #[.pointer (some ⟨d, 0, none⟩)] w fun e w' => e = .returned (.int .i64 (if s.dead then 34 else 0)) ∧ w' = w := by
  obtain ⟨_, ms, mf, vc, hb⟩ := h.at_
  have hc := hb.cell 6
  clear h
  cases hd : s.dead
  all_goals
    rw [hd] at hc
    have HD := Lib.hid hd
    clear hd
    go_enter Try.func81, Try.ntmps81
    go_wp2
    go_ret
    exact ⟨rfl, rfl⟩

/-- The file to which a name leads now. -/
def Dk.of (s : Dk) (n : ByteArray) : Option Nat := if s.dead = true then none else if goodN n = false then none else getL n s.seen
theorem atE_zero {n : ByteArray} {s : Dk} : atE n s = 0 ↔ s.dead = false ∧ goodN n = true ∧ ∃ k, getL n s.seen = some k := by
  unfold atE
  cases hd : s.dead <;> cases hg : goodN n <;> cases hs : getL n s.seen <;> simp

set_option maxRecDepth 100000 in
set_option maxHeartbeats 4000000 in
/-- at, where there is no such file. -/
theorem at_no (S : Nat → Prop) (d : Nat) (s : Dk) (n : ByteArray) (w : World) (h : Disk w S d s) (hz : n.size ≤ maxLen) (er : Int) (he : atE n s = er) (h0 : er ≠ 0) :
    Calls Try.prog 76 #[.pointer (some ⟨d, 0, none⟩), .string n] w fun e w' => e = .returned (.tuple #[.pointer none, .int .i64 er]) ∧ Below w.heap.size w w' := by
  unfold atE at he
  by_cases hd : s.dead = true
  · rw [if_pos hd] at he
    subst he
    have H := Lib.hid (And.intro h hd)
    clear h hd
    go_enter Try.func76, Try.ntmps76
    go_wp2_with (go_at_call 81
                 refine (ready_any S d s _ H.out.1).mono ?_
                 rintro e w1 ⟨rfl, rfl⟩
                 rw [if_pos H.out.2])
    go_ret2
    exact ⟨rfl, Below.refl _ _⟩
  · rw [if_neg hd] at he
    by_cases hg : goodN n = false
    · rw [if_pos hg] at he
      subst he
      have H := Lib.hid (And.intro h (And.intro hd hg))
      clear h hd hg
      go_enter Try.func76, Try.ntmps76
      go_wp2_with (first
        | (go_at_call 81
           refine (ready_any S d s _ H.out.1).mono ?_
           rintro e w1 ⟨rfl, rfl⟩
           rw [if_neg H.out.2.1])
        | (go_at_call 44
           refine (goodName_any n _ hz).mono ?_
           rintro e w2 ⟨rfl, hb⟩
           rw [H.out.2.2]
           have HB := Lib.hid hb
           clear hb))
      go_ret2
      exact ⟨rfl, HB.out⟩
    · rw [if_neg hg] at he
      have hgt : goodN n = true := by simpa using hg
      by_cases hs : getL n s.seen = none
      · rw [if_pos hs] at he
        subst he
        obtain ⟨L, fb, ms, mf, vc, hD, hS⟩ := id h
        have hrun := fun w2 (hb : Below w.heap.size w w2) => ((hD.seen).below hb).miss (k := n) (by rw [get_map, hs]; rfl) hz
        have hbx := hD.box
        have HR := Lib.hid (And.intro hrun hbx)
        have H := Lib.hid (And.intro h (And.intro hd hgt))
        clear h hd hg hgt hs hD hS hrun hbx
        go_enter Try.func76, Try.ntmps76
        go_wp2_with (first
          | (go_at_call 81
             refine (ready_any S d s _ H.out.1).mono ?_
             rintro e w1 ⟨rfl, rfl⟩
             rw [if_neg H.out.2.1])
          | (go_at_call 44
             refine (goodName_any n _ hz).mono ?_
             rintro e w2 ⟨rfl, hb⟩
             rw [H.out.2.2]
             have hq := (HR.out.1 w2 hb).2
             have hxc := (HR.out.2.next hb).cell 0
             have HB := Lib.hid hb
             clear hb))
        go_ret2
        exact ⟨rfl, HB.out⟩
      · rw [if_neg hs] at he
        exact absurd he.symm h0
set_option maxRecDepth 100000 in
set_option maxHeartbeats 4000000 in
/-- at, where there is one: number k, its block. -/
theorem at_yes (L : Nat → Nat) (fb : List Nat) (ms mf : Nat) (vc : Value) (d k fk : Nat) (hfk : fb.getD k 0 = fk) (s : Dk) (n : ByteArray) (w : World) (hD : DM w L d fb s ms mf vc) (hz : n.size ≤ maxLen) (hd : s.dead = false) (hg : goodN n = true) (hs : getL n s.seen = some k) :
    Calls Try.prog 76 #[.pointer (some ⟨d, 0, none⟩), .string n] w fun e w' => e = .returned (.tuple #[.pointer (some ⟨fk, 0, none⟩), .int .i64 0]) ∧ Below w.heap.size w w' := by
  have hrun := fun w2 (hb : Below w.heap.size w w2) => ((hD.seen).below hb).look (k := n) (e := fb.getD k 0) (by rw [get_map, hs]; rfl) hz
  have hbx := hD.box
  have HR := Lib.hid (And.intro hrun hbx)
  have H := Lib.hid (And.intro (show Disk w (fun b => L b ≠ 0) d s from ⟨L, fb, ms, mf, vc, hD, fun _ => Iff.rfl⟩) (And.intro (show ¬ s.dead = true by simp [hd]) hg))
  rw [hfk] at HR
  clear hD hd hg hs hrun hbx hfk
  go_enter Try.func76, Try.ntmps76
  go_wp2_with (first
    | (go_at_call 81
       refine (ready_any _ d s _ H.out.1).mono ?_
       rintro e w1 ⟨rfl, rfl⟩
       rw [if_neg H.out.2.1])
    | (go_at_call 44
       refine (goodName_any n _ hz).mono ?_
       rintro e w2 ⟨rfl, hb⟩
       rw [H.out.2.2]
       have hq := (HR.out.1 w2 hb).2
       have hxc := (HR.out.2.next hb).cell 0
       have HB := Lib.hid hb
       clear hb))
  go_ret2
  exact ⟨rfl, HB.out⟩
end Go.Proofs.Ytebeefkibbbkdaa
