import Derived.Test.YtnecafhakkjbpaaSml
/- A store into a map by its two operations: the entry is made, then filled. -/
namespace Go.Proofs.Ytnecafhakkjbpaa
open Go.RowKit Go.Maps
open Go.ChangeMaps Go.MapKept
open Go.WideElems (Fit)

theorem own_block {H : Type} {P : Program} {k : TypeId} {R : Value → Option (DataW H × List MemPlace)} {w w' : World} {b n : Nat} {D : DataW H} (h : w.ownsMap P k R b n D) (hb : w'.heap[b]? = w.heap[b]?) : w'.ownsMap P k R b n D := by
  obtain ⟨es, clock, h1, h2⟩ := h
  exact ⟨es, clock, by rw [hb]; exact h1, h2⟩
theorem idx_push {es : Array MapEntry} {c : Nat} {e : MapEntry} (h : ∀ x ∈ es.toList, x.born < c) (he : e.born = c) : (es.push e).findIdx? (fun x => (x.born : Int) == (c : Int)) = some es.size := by
  rw [Array.findIdx?_push]
  have hn : es.findIdx? (fun x => (x.born : Int) == (c : Int)) = none := by
    rw [Array.findIdx?_eq_none_iff]
    intro x hx
    have := h x (by simpa using hx)
    simp
    omega
  rw [hn]
  simp [he]
theorem own_entry {H : Type} {P : Program} {k : TypeId} {R : Value → Option (DataW H × List MemPlace)} {w : World} {b n : Nat} {D : DataW H} {t e : TypeId} (h : w.ownsMap P k R b n D) (K : Keyed P k) (ht : P.underlying t = some (.map k e)) (hn : n < maxLen) {z : Value} (hz : ∀ W : World, (zeroValue e).run P W = .ok z W)
    {key val : Value} {kl : Lit} {d : DataW H} {ps : List MemPlace} (hkey : keyOf P k key = some kl) (hv : R val = some (d, ps)) (ha : ∀ zd, D.atKey kl zd = zd) (hd : ∃ d1 d2 : DataW H, d1 ≠ d2) :
    ∃ (st : Int) (w1 : World), (Instr.mapEntry t (.map (some b)) key).run P w = .ok (.tuple #[z, .int .i64 st]) w1 ∧ w.grownBy w1 (some b) ∧
      ∀ w2 : World, w2.heap[b]? = w1.heap[b]? → ∃ w3, (Instr.entryStore t (.map (some b)) (.int .i64 st) val).run P w2 = .ok () w3 ∧ w3.ownsMap P k R b (n + 1) (D.put kl d) ∧ w2.grownBy w3 (some b) := by
  obtain ⟨w', hrun, hown, hg⟩ := h.update K ht hn hkey hv
  obtain ⟨es, clock, hb, F, hs, rfl⟩ := h
  rcases K.find w hkey es.toList (fun x hx => by obtain ⟨y, hy⟩ := F.reads x hx; exact ⟨y.1, Go.WideElems.rd_key hy⟩) with ⟨h1, h2⟩ | ⟨j, e0, h1, h2, h3⟩
  · have hb1 : (setBlock w b (.map (es.push ⟨key, z, clock⟩) (clock + 1))).heap[b]? = some (.map (es.push ⟨key, z, clock⟩) (clock + 1)) := heap_setBlock_same hb _
    have hup : (Instr.mapUpdate t (.map (some b)) key val).run P w = .ok () (setBlock w b (.map (es.push ⟨key, val, clock⟩) (clock + 1))) := by
      simp [Instr.mapUpdate, run_underlying ht, MapKept.run_getObj_map hb, K.check w false hkey, h1, MapKept.run_setObj_map _ hb, Result.andThen, setBlock]
    rw [hup] at hrun
    injection hrun with _ hw
    refine ⟨clock, setBlock w b (.map (es.push ⟨key, z, clock⟩) (clock + 1)), ?_, ⟨rfl, rfl, rfl, by simp [setBlock], fun i _ hi => heap_setBlock_other hb _ (fun e => hi (by rw [e]))⟩, fun w2 hw2 => ?_⟩
    · simp [Instr.mapEntry, run_underlying ht, MapKept.run_getObj_map hb, K.check w false hkey, h1, hz, MapKept.run_setObj_map _ hb, Result.andThen, setBlock, goInt]
    · have hb2 : w2.heap[b]? = some (.map (es.push ⟨key, z, clock⟩) (clock + 1)) := by rw [hw2]; exact hb1
      refine ⟨setBlock w2 b (.map (es.push ⟨key, val, clock⟩) (clock + 1)), ?_, own_block hown ?_, ⟨rfl, rfl, rfl, by simp [setBlock], fun i _ hi => heap_setBlock_other hb2 _ (fun e => hi (by rw [e]))⟩⟩
      · have hf := idx_push (e := ⟨key, z, clock⟩) F.stamped.1 rfl
        have hm : (es.push ⟨key, z, clock⟩).modify es.size (fun e => { e with val := val }) = es.push ⟨key, val, clock⟩ := by
          apply Array.ext
          · simp
          · intro i hi1 hi2
            simp only [Array.getElem_modify, Array.getElem_push]
            by_cases hi : i < es.size
            · have : ¬ es.size = i := by omega
              simp [hi, this]
            · have : es.size = i := by simp at hi2; omega
              simp [this]
        simp [Instr.entryStore, MapKept.run_getObj_map hb2, asInt, asIntOf, hf, hm, MapKept.run_setObj_map _ hb2, Result.andThen, setBlock]
      · rw [heap_setBlock_same hb2, ← hw, heap_setBlock_same hb]
  · exfalso
    obtain ⟨d1, d2, hne⟩ := hd
    rcases Maps.fit_look (z := z) false K ht (hz w) hb F hkey with ⟨_, h4, _⟩ | ⟨_, y, _, _, _, _, hat, _⟩
    · exact h4 e0 (List.mem_of_getElem? h2) h3
    · exact hne (by rw [← ha d1, ← ha d2, hat d1, hat d2])
end Go.Proofs.Ytnecafhakkjbpaa
