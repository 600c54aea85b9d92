import Derived.Shelf.SlIter.Nil
import Derived.Shelf.SortM.Plain
import Derived.Shelf.SortM.SortNone
import Derived.Test.YtnkhmebmgncjbaaProg
namespace Go.Proofs.Ytnkhmebmgncjbaa
open Go.RowKit Go.Maps Go.Sort Go.Shelf

def keys10_ren : Go.Shelf.Ren := ⟨fun | 7 => 10 | 10 => 15 | n => n, fun | 23 => 33 | 26 => 9 | 3 => 29 | 28 => 37 | 0 => 0 | 27 => 36 | 33 => 42 | 4 => 4 | n => n, fun | n => n⟩
theorem keys10 : Go.Proofs.SlLaysZ.n7 Try.prog keys10_ren := {
  mixed := by kernel_rfl
  f7 := ⟨Try.f10.name, by decide, Try.func10.trans (congrArg some (by kernel_rfl))⟩
  f10 := ⟨Try.f15.name, by decide, Try.func15.trans (congrArg some (by kernel_rfl))⟩
  t0 := Try.underlying0
  a0 := Try.isAgg0
  z0 := Try.sizeOf0
  v0 := Try.zeroValue0
  t4 := Try.underlying4
  a4 := Try.isAgg4
  z4 := Try.sizeOf4
  v4 := Try.zeroValue4
  t23 := Try.underlying33
  a23 := Try.isAgg33
  z23 := Try.sizeOf33
  v23 := Try.zeroValue33
  t26 := Try.underlying9
  a26 := Try.isAgg9
  z26 := Try.sizeOf9
  v26 := Try.zeroValue9
  t27 := Try.underlying36
  a27 := Try.isAgg36
  z27 := Try.sizeOf36
  v27 := Try.zeroValue36
  t28 := Try.underlying37
  a28 := Try.isAgg37
  z28 := Try.sizeOf37
  v28 := Try.zeroValue37
  t33 := Try.underlying42
  a33 := Try.isAgg42
  z33 := Try.sizeOf42
  v33 := Try.zeroValue42 }
def sorted9_ren : Go.Shelf.Ren := ⟨fun | 6 => 9 | 8 => 13 | 9 => 14 | 11 => 17 | 13 => 19 | 12 => 18 | 23 => 29 | 24 => 30 | 14 => 20 | 15 => 21 | 16 => 22 | 17 => 23 | 18 => 24 | 19 => 25 | 20 => 26 | 21 => 27 | 22 => 28 | 25 => 31 | 26 => 32 | 27 => 33 | 28 => 34 | 29 => 35 | 30 => 36 | 31 => 37 | n => n, fun | 26 => 9 | 28 => 37 | 24 => 34 | 0 => 0 | 3 => 3 | 37 => 47 | 48 => 58 | 50 => 60 | 4 => 4 | 40 => 50 | 39 => 49 | 45 => 55 | 5 => 5 | 9 => 9 | 51 => 61 | 55 => 65 | 57 => 67 | 58 => 68 | 33 => 42 | n => n, fun | n => n⟩
theorem sorted9 : Go.Proofs.SlLaysZ.n6 Try.prog sorted9_ren := {
  mixed := by kernel_rfl
  f6 := ⟨Try.f9.name, by decide, Try.func9.trans (congrArg some (by kernel_rfl))⟩
  f8 := ⟨Try.f13.name, by decide, Try.func13.trans (congrArg some (by kernel_rfl))⟩
  f11 := ⟨Try.f17.name, by decide, Try.func17.trans (congrArg some (by kernel_rfl))⟩
  t0 := Try.underlying0
  a0 := Try.isAgg0
  z0 := Try.sizeOf0
  v0 := Try.zeroValue0
  t24 := Try.underlying34
  a24 := Try.isAgg34
  z24 := Try.sizeOf34
  v24 := Try.zeroValue34
  t26 := Try.underlying9
  a26 := Try.isAgg9
  z26 := Try.sizeOf9
  v26 := Try.zeroValue9
  t28 := Try.underlying37
  a28 := Try.isAgg37
  z28 := Try.sizeOf37
  v28 := Try.zeroValue37
  i26 := by kernel_rfl }
def sort14_ren : Go.Shelf.Ren := ⟨fun | 6 => 14 | 8 => 19 | 9 => 18 | 19 => 29 | 20 => 30 | 21 => 20 | 22 => 21 | 23 => 22 | 24 => 23 | 25 => 24 | 26 => 25 | 27 => 26 | 28 => 27 | 29 => 28 | 36 => 31 | 31 => 32 | 32 => 33 | 37 => 34 | 38 => 35 | 39 => 36 | 41 => 37 | n => n, fun | 27 => 34 | 29 => 9 | 3 => 3 | 32 => 47 | 26 => 34 | 0 => 0 | 44 => 58 | 46 => 60 | 4 => 4 | 36 => 50 | 35 => 49 | 41 => 55 | 5 => 5 | 9 => 9 | 53 => 61 | 57 => 65 | 63 => 67 | 64 => 68 | n => n, fun | n => n⟩
theorem sort14 : Go.Proofs.SlLaysM.n6 Try.prog sort14_ren := {
  mixed := by kernel_rfl
  f6 := ⟨Try.f14.name, by decide, Try.func14.trans (congrArg some (by kernel_rfl))⟩
  f8 := Try.func19.trans (congrArg some (by kernel_rfl))
  f9 := ⟨Try.f18.name, by decide, Try.func18.trans (congrArg some (by kernel_rfl))⟩
  f19 := Try.func29.trans (congrArg some (by kernel_rfl))
  f20 := Try.func30.trans (congrArg some (by kernel_rfl))
  f21 := ⟨Try.f20.name, by decide, Try.func20.trans (congrArg some (by kernel_rfl))⟩
  f22 := ⟨Try.f21.name, by decide, Try.func21.trans (congrArg some (by kernel_rfl))⟩
  f23 := ⟨Try.f22.name, by decide, Try.func22.trans (congrArg some (by kernel_rfl))⟩
  f24 := ⟨Try.f23.name, by decide, Try.func23.trans (congrArg some (by kernel_rfl))⟩
  f25 := ⟨Try.f24.name, by decide, Try.func24.trans (congrArg some (by kernel_rfl))⟩
  f26 := ⟨Try.f25.name, by decide, Try.func25.trans (congrArg some (by kernel_rfl))⟩
  f27 := ⟨Try.f26.name, by decide, Try.func26.trans (congrArg some (by kernel_rfl))⟩
  f28 := ⟨Try.f27.name, by decide, Try.func27.trans (congrArg some (by kernel_rfl))⟩
  f29 := ⟨Try.f28.name, by decide, Try.func28.trans (congrArg some (by kernel_rfl))⟩
  f31 := Try.func32.trans (congrArg some (by kernel_rfl))
  f32 := Try.func33.trans (congrArg some (by kernel_rfl))
  f36 := ⟨Try.f31.name, by decide, Try.func31.trans (congrArg some (by kernel_rfl))⟩
  f37 := ⟨Try.f34.name, by decide, Try.func34.trans (congrArg some (by kernel_rfl))⟩
  f38 := ⟨Try.f35.name, by decide, Try.func35.trans (congrArg some (by kernel_rfl))⟩
  f39 := ⟨Try.f36.name, by decide, Try.func36.trans (congrArg some (by kernel_rfl))⟩
  f41 := ⟨Try.f37.name, by decide, Try.func37.trans (congrArg some (by kernel_rfl))⟩
  t0 := Try.underlying0
  a0 := Try.isAgg0
  z0 := Try.sizeOf0
  v0 := Try.zeroValue0
  t3 := Try.underlying3
  a3 := Try.isAgg3
  z3 := Try.sizeOf3
  v3 := Try.zeroValue3
  t4 := Try.underlying4
  a4 := Try.isAgg4
  z4 := Try.sizeOf4
  v4 := Try.zeroValue4
  t5 := Try.underlying5
  a5 := Try.isAgg5
  z5 := Try.sizeOf5
  v5 := Try.zeroValue5
  t9 := Try.underlying9
  a9 := Try.isAgg9
  z9 := Try.sizeOf9
  v9 := Try.zeroValue9
  t26 := Try.underlying34
  a26 := Try.isAgg34
  z26 := Try.sizeOf34
  v26 := Try.zeroValue34
  t27 := Try.underlying34
  a27 := Try.isAgg34
  z27 := Try.sizeOf34
  v27 := Try.zeroValue34
  t29 := Try.underlying9
  a29 := Try.isAgg9
  z29 := Try.sizeOf9
  v29 := Try.zeroValue9
  t32 := Try.underlying47
  a32 := Try.isAgg47
  z32 := Try.sizeOf47
  v32 := Try.zeroValue47
  t35 := Try.underlying49
  a35 := Try.isAgg49
  z35 := Try.sizeOf49
  v35 := Try.zeroValue49
  t36 := Try.underlying50
  a36 := Try.isAgg50
  z36 := Try.sizeOf50
  v36 := Try.zeroValue50
  t41 := Try.underlying55
  a41 := Try.isAgg55
  z41 := Try.sizeOf55
  v41 := Try.zeroValue55
  t44 := Try.underlying58
  a44 := Try.isAgg58
  z44 := Try.sizeOf58
  v44 := Try.zeroValue58
  t46 := Try.underlying60
  a46 := Try.isAgg60
  z46 := Try.sizeOf60
  v46 := Try.zeroValue60
  t53 := Try.underlying61
  a53 := Try.isAgg61
  z53 := Try.sizeOf61
  v53 := Try.zeroValue61
  t57 := Try.underlying65
  a57 := Try.isAgg65
  z57 := Try.sizeOf65
  v57 := Try.zeroValue65
  t63 := Try.underlying67
  a63 := Try.isAgg67
  z63 := Try.sizeOf67
  v63 := Try.zeroValue67
  t64 := Try.underlying68
  a64 := Try.isAgg68
  z64 := Try.sizeOf68
  v64 := Try.zeroValue68 }
theorem sorts9 (m : Nat) : AnyZ.SortsIn Try.prog sorted9_ren Fence.wide m :=
  ⟨fun blk off cap ss W hH hblk hsz => callsIn_wide.2 (AnyM.slices_Sort_string sort14 blk off cap ss W hH hblk hsz),
   fun p cap W => callsIn_wide.2 (AnyM.slices_Sort_string_none sort14 p cap W)⟩

theorem maps_Keys_10 (mb : Option Nat) (W : World) : CallsIn Fence.wide 5 Try.prog 10 #[.map mb] W fun e w' => e = .returned (.func (.func 15) #[] #[.pointer (some ⟨W.heap.size, 0, none⟩)]) ∧ w' = W.alloc (.cells #[.map mb] 33) :=
  AnyZ.keys_in keys10 Fence.wide 5 trivial rfl mb W

set_option maxHeartbeats 1000000 in
theorem slices_Sorted_keys_9_10 {H : Type} (b nn : Nat) (D0 : DataW H) (R : Value → Option (DataW H × List MemPlace)) (w : World) (hown : w.ownsMap Try.prog 9 R b nn D0) (hmax : Maps.size D0 ≤ maxLen) (hbytes : Maps.size D0 * 16 ≤ 140737488355328) :
    CallsIn Fence.wide 5 Try.prog 9 #[.func (.func 15) #[] #[.pointer (some ⟨w.heap.size, 0, none⟩)]] (w.alloc (.cells #[.map (some b)] 33)) fun e w' => ∃ (v : Value) (ss : List (List UInt8)), e = .returned v ∧ ss.Perm (strKeys D0) ∧
      w'.ownsRow (w.alloc (.cells #[.map (some b)] 33)).heap.size 9 1 v ss.length ((ss.mergeSort (fun x y => decide (x ≤ y))).map encStr) ∧ (v = .slice none 0 0 ↔ ss = []) ∧ Below (w.alloc (.cells #[.map (some b)] 33)).heap.size (w.alloc (.cells #[.map (some b)] 33)) w' := by
  have hbl := hown.lt
  have hseq : SeqGives Fence.wide 2 Try.prog 15 #[.pointer (some ⟨w.heap.size, 0, none⟩)] encStr (fun ss => ss.Perm (strKeys D0)) (Maps.size D0) (w.alloc (.cells #[.map (some b)] 33)) :=
    AnyZ.keys_gives (ρ := keys10_ren) { keys10 with } Fence.wide _ trivial rfl (by omega) w.heap.size b nn D0 _ (by simp) (by simp) (by
      obtain ⟨es, clock, hb, Ft, hs, hD⟩ := hown
      exact ⟨es, clock, (Below.heap_alloc _ _ b hbl).trans hb, Ft, hs, hD⟩)
  exact AnyZ.sorted_in sorted9 Fence.wide 5 trivial trivial trivial trivial rfl (by omega) (sorts9 _) (enters_of Try.func14 (by kernel_rfl) rfl) 15 #[.pointer (some ⟨w.heap.size, 0, none⟩)] trivial (enters_of Try.func15 (by kernel_rfl) rfl) _ _ hmax hbytes _ hseq

set_option maxHeartbeats 1000000 in
theorem slices_Sorted_keys_nil_9_10 (w : World) :
    CallsIn Fence.wide 5 Try.prog 9 #[.func (.func 15) #[] #[.pointer (some ⟨w.heap.size, 0, none⟩)]] (w.alloc (.cells #[.map none] 33)) fun e w' => ∃ (v : Value) (ss : List (List UInt8)), e = .returned v ∧ ss = [] ∧
      w'.ownsRow (w.alloc (.cells #[.map none] 33)).heap.size 9 1 v ss.length ((ss.mergeSort (fun x y => decide (x ≤ y))).map encStr) ∧ (v = .slice none 0 0 ↔ ss = []) ∧ Below (w.alloc (.cells #[.map none] 33)).heap.size (w.alloc (.cells #[.map none] 33)) w' := by
  have hseq : SeqGives Fence.wide 2 Try.prog 15 #[.pointer (some ⟨w.heap.size, 0, none⟩)] encStr (fun ss : List (List UInt8) => ss = []) 0 (w.alloc (.cells #[.map none] 33)) :=
    AnyZ.keys_gives_nil (ρ := keys10_ren) { keys10 with } Fence.wide _ trivial rfl w.heap.size _ (by simp) (by simp)
  exact AnyZ.sorted_in sorted9 Fence.wide 5 trivial trivial trivial trivial rfl (by omega) (sorts9 _) (enters_of Try.func14 (by kernel_rfl) rfl) 15 #[.pointer (some ⟨w.heap.size, 0, none⟩)] trivial (enters_of Try.func15 (by kernel_rfl) rfl) _ 0 (Nat.zero_le _) (by omega) _ hseq

end Go.Proofs.Ytnkhmebmgncjbaa
