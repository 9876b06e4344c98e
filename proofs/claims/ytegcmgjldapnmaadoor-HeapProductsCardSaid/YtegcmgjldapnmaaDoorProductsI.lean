/- ProductsI: contracts of functions. -/
import Derived.Test.YtegcmgjldapnmaaDoorProductsH
namespace Go.Proofs.YtegcmgjldapnmaaDoor
open Go Go.Eng Nim
set_option maxRecDepth 100000
theorem e34 (n : Nat) (x : Int) (h : Hp) : Ev 100000 (n + 1) 34 [.int .i64 x] h = some (.bool (decide (0 ≤ x ∧ x < 65536)), h) := c34 x 100000 n h
theorem e38 (n a k : Nat) (h : Hp) (ha : F a) (hk : k < 2 ^ 63) : ∃ H, Ev 100000 (n + 7) 38 [J a, J k] h = some (J (pwr 1 a k), H) :=
  s38 a k ha hk 100000 (n + 6) (by decide) h fun a b h ha hb => c35 a b ha hb 100000 n h
theorem facts : Facts 100000 999 where
  t a b h ha hb := s11 a b ha hb 100000 998 h (fun x h => e34 997 x h) (fun h => c35 a b ha hb 100000 992 h)
  tn a b h hn := n11 a b 100000 998 h (fun x h => e34 997 x h) hn
  i0 h := (s15 0 100000 998 h (fun x h => e34 997 x h) (fun x h hx => e38 991 x 65534 h hx (by decide))).2.1 rfl
  i x h hx h0 := (s15 (Int.ofNat x) 100000 998 h (fun x h => e34 997 x h) (fun x h hx => e38 991 x 65534 h hx (by decide))).2.2 x hx h0 rfl
  ie a h hn := (s15 a 100000 998 h (fun x h => e34 997 x h) (fun x h hx => e38 991 x 65534 h hx (by decide))).1 hn
  r x h hx := (s16 (Int.ofNat x) 100000 998 h (fun x h => e34 997 x h) (fun x h hx => e38 991 x 32768 h hx (by decide))).2 x hx rfl
  re a h hn := (s16 a 100000 998 h (fun x h => e34 997 x h) (fun x h hx => e38 991 x 32768 h hx (by decide))).1 hn
  p a k h ha hk := s17 a k ha hk 100000 998 h (fun x h => e34 997 x h) (fun h => e38 991 a k h ha hk)
  pe a m h hn := n17 a m 100000 998 h (fun x h => e34 997 x h) hn
  rt a b h ha hb := s13 a b 100000 998 h (c37 a b ha hb 100000 993 h)
  rp a k h ha hk := s18 a k ha hk 100000 998 (by decide) h fun a b h ha hb => ⟨h, s13 a b 100000 997 h (c37 a b ha hb 100000 992 h)⟩
  aw h := rfl
namespace heapProducts
theorem run (a0 a1 a2 : Int) (w0 : (Lit.int .i64 a0).wf = true) (w1 : (Lit.int .i64 a1).wf = true) (w2 : (Lit.int .i64 a2).wf = true) (h : Hp) : ∃ H, evInv Tryd.prog orc 100000 1000 (.fn 4 [.int .i64 a0, .int .i64 a1, .int .i64 a2]) h = some (.bool true, H) := by
  clear w0 w1
  refine s4 a0 a1 a2 ?_ 100000 999 (by decide) h facts
  simp only [Lit.wf, Bool.and_eq_true, decide_eq_true_eq] at w2
  have h3 : a2 ≤ 9223372036854775807 := w2.2
  omega
end heapProducts
end Go.Proofs.YtegcmgjldapnmaaDoor
