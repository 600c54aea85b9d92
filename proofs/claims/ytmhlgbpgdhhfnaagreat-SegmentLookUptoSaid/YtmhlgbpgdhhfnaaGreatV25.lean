import Derived.Test.YtmhlgbpgdhhfnaaGreatV21
import Derived.Test.YtmhlgbpgdhhfnaaGreatV22
import Derived.Test.YtmhlgbpgdhhfnaaGreatV23
import Derived.Test.YtmhlgbpgdhhfnaaGreatV24
set_option linter.unusedVariables false
set_option linter.unusedSimpArgs false
namespace Go.Proofs.YtmhlgbpgdhhfnaaGreat
open Go.RowKit Go.Maps Sqz

theorem readRec_any (A : Option Addr) (n c : Nat) (b : List UInt8) (w : World) (hA : Rd w w.heap.size A (bv b)) (hn : b.length = n) (hmx : n ≤ 4096) :
    Calls Tryz.prog 49 #[.slice A n c] w fun e w' => RcA (readB b) e ∧ Below w.heap.size w w' := by
  rcases hs1 : byS b ⟨0, false⟩ with ⟨f1, s1⟩
  rcases hs2 : nmS b s1 with ⟨o1, s2⟩
  rcases hs3 : nmS b s2 with ⟨t1, s3⟩
  rcases hs4 : nmS b s3 with ⟨p1, s4⟩
  rcases hs5 : nmS b s4 with ⟨q1, s5⟩
  by_cases hc : f1 / 4 % 2 = 1
  · rcases hs6 : txS 64 b s5 with ⟨k1, s6⟩
    rcases hs7 : rawS b s6 with ⟨v1, s7⟩
    by_cases ht : f1 % 2 = 1
    · exact read_11 A n c b w hA hn hmx f1 o1 t1 p1 q1 k1 v1 s1 s2 s3 s4 s5 s6 s7 hs1 hs2 hs3 hs4 hs5 hs6 hs7 ht hc
    exact read_01 A n c b w hA hn hmx f1 o1 t1 p1 q1 k1 v1 s1 s2 s3 s4 s5 s6 s7 hs1 hs2 hs3 hs4 hs5 hs6 hs7 ht hc
  rcases hs6 : txS 64 b s3 with ⟨k1, s6⟩
  rcases hs7 : rawS b s6 with ⟨v1, s7⟩
  by_cases ht : f1 % 2 = 1
  · exact read_10 A n c b w hA hn hmx f1 o1 t1 k1 v1 s1 s2 s3 s6 s7 hs1 hs2 hs3 hs6 hs7 ht hc
  exact read_00 A n c b w hA hn hmx f1 o1 t1 k1 v1 s1 s2 s3 s6 s7 hs1 hs2 hs3 hs6 hs7 ht hc
end Go.Proofs.YtmhlgbpgdhhfnaaGreat
