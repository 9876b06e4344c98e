/- Blocks that are found, sorting, the plain law of blocks, the law of what sees. -/
import Derived.Test.YtnfboopfpkaeaaaProg
import Derived.KernelRfl
import Derived.Test.YtnfboopfpkaeaaaSyF
import Derived.Test.YtnfboopfpkaeaaaSeesQA
/- SeesH: contracts of functions. -/
namespace Go.Proofs.Ytnfboopfpkaeaaa
open Go Go.Eng Nim
set_option maxRecDepth 100000
set_option maxHeartbeats 4000000
theorem risb_of (f : Nat → Bool) (n : Nat) (hn : n ≤ 6) (lf m : Nat) (hlf : 300 ≤ lf) (ck : ∀ a c h, Ev lf m 59 [.slice a (2 ^ n) c] h = some (J 0, h)) (b0 c x : Nat) (hx : x < 2 ^ n) (h : Hp) (A : ArB b0 (2 ^ n) f h)
    (w : List Int) (hw : w.length ≤ 64) (la : Option Addr) (lc : Nat) (L : Rds h (.slice la w.length lc) (w.map I)) :
    Ev lf (m + 1) 44 [.slice (some ⟨b0, 0, none⟩) (2 ^ n) c, J x, .slice la w.length lc] h = some (.bool (bl f (2 ^ n) x 0 0 w), h) := by
  have hp64 : 2 ^ n ≤ 64 := Nat.pow_le_pow_right (n := 2) (by decide) hn
  have hp0 : 1 ≤ 2 ^ n := Nat.one_le_two_pow
  have ck := ck (some ⟨b0, 0, none⟩) c h
  have hxs : ∀ s, s < 2 ^ n → x ^^^ s < 2 ^ n := fun s hs => xor_small hx hs
  have hos : ∀ a s, a < 2 ^ n → s < 2 ^ n → a ||| s < 2 ^ n := fun a s ha hs => or_small ha hs
  refine fn_eq ?_
  generalize hN : 2 ^ n = N at *
  refine ok_go 0 ?_
  refine sy_call 0 (by kernel_rfl) ck ?_
  refine ok_go 12 ?_
  refine sy_no 0 (b := decide (Int.ofNat x ≥ Int.ofNat N)) (by kernel_rfl) (decide_eq_false (by simp; omega)) ?_
  refine ok_go 0 ?_
  refine sy_loop 0 lf h (α := Nat × Nat × Nat) (fun s => [(0, .slice (some ⟨b0, 0, none⟩) N c), (1, J x), (2, .slice la w.length lc), (7, J s.2.1), (8, J s.1)])
    (fun s g => s.1 ≤ w.length ∧ s.2.1 < N ∧ s.2.2 < N ∧ ((s.1 = 0 → s.2.2 = 0) ∧ (0 < s.1 → w[s.1 - 1]? = some (Int.ofNat s.2.2) ∧ 0 < s.2.2)) ∧ bl f N x s.2.1 s.2.2 (w.drop s.1) = bl f N x 0 0 w ∧ g = h) (fun s _ => w.length - s.1) (0, 0, 0) (by kernel_rfl) (by kernel_rfl) ⟨by kernel_rfl, by kernel_rfl, by kernel_rfl, by kernel_rfl, by kernel_rfl, trivial⟩ (show w.length - 0 < lf by omega) ⟨Nat.zero_le _, hp0, hp0, ⟨fun _ => rfl, fun hc => absurd hc (by decide)⟩, rfl, rfl⟩ ?_
  rintro m1 ⟨i, u, la0⟩ f1 g ⟨hi, hu, hla, ⟨hz, hp⟩, hbl, rfl⟩ ih
  dsimp only at hi hu hla hz hp hbl
  refine ok_go 2 ?_
  refine sy_test 0 (decide (Int.ofNat i < Int.ofNat w.length)) (by kernel_rfl) ?_ ?_
  · intro hlt
    have hlt := ok_nat hlt
    obtain ⟨p, e1, e2⟩ := L.read (P := Try.prog) (kd := .i64) uI zI agI (k := i) (v := I w[i]) (by simp [hlt])
    have hwi : w[i]? = some w[i] := List.getElem?_eq_getElem hlt
    rw [List.drop_eq_getElem_cons hlt] at hbl
    generalize w[i] = s at hbl e2 hwi
    have out : ∀ b, bl f N x u la0 (s :: w.drop (i + 1)) = b → b = bl f N x 0 0 w := fun b hb => hb.symm.trans hbl
    refine ok_go 0 ?_
    refine sy_load 0 (r := indexAddrOp Try.prog 50 (.slice la w.length lc) (J i)) (h' := g) (by kernel_rfl) e1 ?_
    refine ok_go 0 ?_
    refine sy_load 0 (r := loadT Try.prog g 3 p) (h' := g) (by kernel_rfl) e2 ?_
    refine ok_go 1 ?_
    refine sy_test 0 (decide (s ≤ 0)) (by kernel_rfl) ?_ ?_
    · intro h1
      have h1 := of_decide_eq_true h1
      refine ok_go 36 ?_
      exact sy_done 0 (v := .bool false) (h := g) (by kernel_rfl) ⟨by rw [← out false (by unfold bl; rw [decide_eq_true (show s ≤ (la0 : Int) by omega)]; rfl)], rfl⟩
    · intro h0
      have h0 := of_decide_eq_false h0
      refine ok_go 2 ?_
      refine sy_load 0 (r := indexAddrOp Try.prog 50 (.slice la w.length lc) (J i)) (h' := g) (by kernel_rfl) e1 ?_
      refine ok_go 1 ?_
      refine sy_load 0 (r := loadT Try.prog g 3 p) (h' := g) (by kernel_rfl) e2 ?_
      refine ok_go 6 ?_
      refine sy_test 0 (decide (s ≥ Int.ofNat N)) (by kernel_rfl) ?_ ?_
      · intro h2
        refine ok_go 28 ?_
        exact sy_done 0 (v := .bool false) (h := g) (by kernel_rfl) ⟨by rw [← out false (by unfold bl; rw [show decide ((N : Int) ≤ s) = true from h2, Bool.or_true]; rfl)], rfl⟩
      · intro h2
        have h2' : ¬ (N : Int) ≤ s := of_decide_eq_false h2
        obtain ⟨k, rfl⟩ : ∃ k : Nat, s = Int.ofNat k := ⟨s.toNat, by simp; omega⟩
        have hkN : k < N := by simp at h2'; omega
        have hk1 : 0 < k := by simp at h0; omega
        have hx' := hxs k hkN
        have hxor : xorI (Int.ofNat x) (Int.ofNat k) = Int.ofNat (x ^^^ k) := xor_nat (by omega) (by omega)
        have hub0 : la0 < k → _ := fun hk0 => out _ (by unfold bl; rw [show decide (Int.ofNat k ≤ (la0 : Int)) = false from decide_eq_false (by simp; omega), show decide ((N : Int) ≤ Int.ofNat k) = false from h2])
        refine ok_go 3 ?_
        refine sy_test 0 (decide (Int.ofNat i > 0)) (by kernel_rfl) ?_ ?_
        · intro hi0
          have hi0 : 0 < i := by have := of_decide_eq_true hi0; simp at this; omega
          obtain ⟨hw0, hl0⟩ := hp hi0
          obtain ⟨p', e1', e2'⟩ := L.read (P := Try.prog) (kd := .i64) uI zI agI (k := i - 1) (v := J la0) (by rw [List.getElem?_map, hw0]; rfl)
          have hi1 : IntKind.wrap .i64 (Int.ofNat i - 1) = Int.ofNat (i - 1) := by
            rw [show Int.ofNat i - 1 = Int.ofNat (i - 1) by simp; omega, wrap_nat (by omega)]
          refine ok_go 4 ?_
          refine sy_load 0 (r := indexAddrOp Try.prog 50 (.slice la w.length lc) (.int .i64 (IntKind.wrap .i64 (Int.ofNat i - 1)))) (h' := g) (by kernel_rfl) (by rw [hi1]; exact e1') ?_
          refine ok_go 1 ?_
          refine sy_load 0 (r := loadT Try.prog g 3 p') (h' := g) (by kernel_rfl) e2' ?_
          refine ok_go 3 ?_
          refine sy_load 0 (r := indexAddrOp Try.prog 50 (.slice la w.length lc) (J i)) (h' := g) (by kernel_rfl) e1 ?_
          refine ok_go 1 ?_
          refine sy_load 0 (r := loadT Try.prog g 3 p) (h' := g) (by kernel_rfl) e2 ?_
          refine ok_go 5 ?_
          refine sy_test 0 (decide (Int.ofNat la0 ≥ Int.ofNat k)) (by kernel_rfl) ?_ ?_
          · intro h5
            refine ok_go 23 ?_
            exact sy_done 0 (v := .bool false) (h := g) (by kernel_rfl) ⟨by rw [← out false (by unfold bl; rw [show decide (Int.ofNat k ≤ (la0 : Int)) = true from h5]; rfl)], rfl⟩
          · intro h5
            have hub := hub0 (by have := of_decide_eq_false h5; simp at this; omega)
            rw [show (Int.ofNat k).toNat = k from rfl] at hub
            refine ok_go 2 ?_
            refine sy_load 0 (r := indexAddrOp Try.prog 50 (.slice la w.length lc) (J i)) (h' := g) (by kernel_rfl) e1 ?_
            refine ok_go 1 ?_
            refine sy_load 0 (r := loadT Try.prog g 3 p) (h' := g) (by kernel_rfl) e2 ?_
            refine ok_go 6 ?_
            refine sy_test 0 (andI (Int.ofNat k) (Int.ofNat u) != 0) (by kernel_rfl) ?_ ?_
            · intro h3
              rw [and_nat (by omega)] at h3
              have h3 : (k &&& u != 0) = true := (ne_int _ 0).symm.trans h3
              refine ok_go 15 ?_
              exact sy_done 0 (v := .bool false) (h := g) (by kernel_rfl) ⟨by rw [← hub, h3]; rfl, rfl⟩
            · intro h3
              rw [and_nat (by omega)] at h3
              have h3 : (k &&& u != 0) = false := (ne_int _ 0).symm.trans h3
              refine ok_go 2 ?_
              refine sy_load 0 (r := indexAddrOp Try.prog 27 (.slice (some ⟨b0, 0, none⟩) N c) (J x)) (h' := g) (by kernel_rfl) (idxB hx) ?_
              refine ok_go 1 ?_
              refine sy_load 0 (r := loadT Try.prog g 4 (ptr b0 x)) (h' := g) (by kernel_rfl) (A.read hx) ?_
              refine ok_go 5 ?_
              refine sy_load 0 (r := indexAddrOp Try.prog 50 (.slice la w.length lc) (J i)) (h' := g) (by kernel_rfl) e1 ?_
              refine ok_go 1 ?_
              refine sy_load 0 (r := loadT Try.prog g 3 p) (h' := g) (by kernel_rfl) e2 ?_
              refine ok_go 3 ?_
              refine sy_load 0 (r := indexAddrOp Try.prog 27 (.slice (some ⟨b0, 0, none⟩) N c) (.int .i64 (xorI (Int.ofNat x) (Int.ofNat k)))) (h' := g) (by kernel_rfl) (by rw [hxor]; exact idxB hx') ?_
              refine ok_go 1 ?_
              refine sy_load 0 (r := loadT Try.prog g 4 (ptr b0 (x ^^^ k))) (h' := g) (by kernel_rfl) (A.read hx') ?_
              refine ok_go 3 ?_
              refine sy_test 0 (f x == f (x ^^^ k)) (by kernel_rfl) ?_ ?_
              · intro h4
                rw [BEq.comm] at h4
                refine ok_go 0 ?_
                exact sy_done 0 (v := .bool false) (h := g) (by kernel_rfl) ⟨by rw [← hub, h3, h4]; rfl, rfl⟩
              · intro h4
                rw [BEq.comm] at h4
                have hor : orI (Int.ofNat u) (Int.ofNat k) = Int.ofNat (u ||| k) := or_nat (by omega) (by omega)
                refine ok_go 0 ?_
                refine sy_load 0 (r := indexAddrOp Try.prog 50 (.slice la w.length lc) (J i)) (h' := g) (by kernel_rfl) e1 ?_
                refine ok_go 0 ?_
                refine sy_load 0 (r := loadT Try.prog g 3 p) (h' := g) (by kernel_rfl) e2 ?_
                refine ok_go 2 ?_
                exact sy_next 0 _ g (by kernel_rfl) (by kernel_rfl) (ih (i + 1, u ||| k, k) _ g ⟨hlt, hos u k hu hkN, hkN, ⟨fun hc => absurd hc (by omega), fun _ => ⟨by rw [show i + 1 - 1 = i from rfl, hwi], by omega⟩⟩, by rw [← hub, h3, h4]; rfl, rfl⟩ (show w.length - (i + 1) < w.length - i by omega) ⟨by kernel_rfl, by kernel_rfl, by kernel_rfl, (by kernel_rfl : _ = Value.int .i64 (orI (Int.ofNat u) (Int.ofNat k))).trans (by rw [hor]), (by kernel_rfl : _ = Value.int .i64 (IntKind.wrap .i64 (Int.ofNat (i + 1)))).trans (by rw [wrap_nat (by omega)]), trivial⟩)
        · intro hi0
          have hi0 : i = 0 := by have := of_decide_eq_false hi0; simp at this; omega
          have hub := hub0 (by rw [hz hi0]; exact hk1)
          rw [show (Int.ofNat k).toNat = k from rfl] at hub
          refine ok_go 15 ?_
          refine sy_load 0 (r := indexAddrOp Try.prog 50 (.slice la w.length lc) (J i)) (h' := g) (by kernel_rfl) e1 ?_
          refine ok_go 1 ?_
          refine sy_load 0 (r := loadT Try.prog g 3 p) (h' := g) (by kernel_rfl) e2 ?_
          refine ok_go 6 ?_
          refine sy_test 0 (andI (Int.ofNat k) (Int.ofNat u) != 0) (by kernel_rfl) ?_ ?_
          · intro h3
            rw [and_nat (by omega)] at h3
            have h3 : (k &&& u != 0) = true := (ne_int _ 0).symm.trans h3
            refine ok_go 15 ?_
            exact sy_done 0 (v := .bool false) (h := g) (by kernel_rfl) ⟨by rw [← hub, h3]; rfl, rfl⟩
          · intro h3
            rw [and_nat (by omega)] at h3
            have h3 : (k &&& u != 0) = false := (ne_int _ 0).symm.trans h3
            refine ok_go 2 ?_
            refine sy_load 0 (r := indexAddrOp Try.prog 27 (.slice (some ⟨b0, 0, none⟩) N c) (J x)) (h' := g) (by kernel_rfl) (idxB hx) ?_
            refine ok_go 1 ?_
            refine sy_load 0 (r := loadT Try.prog g 4 (ptr b0 x)) (h' := g) (by kernel_rfl) (A.read hx) ?_
            refine ok_go 5 ?_
            refine sy_load 0 (r := indexAddrOp Try.prog 50 (.slice la w.length lc) (J i)) (h' := g) (by kernel_rfl) e1 ?_
            refine ok_go 1 ?_
            refine sy_load 0 (r := loadT Try.prog g 3 p) (h' := g) (by kernel_rfl) e2 ?_
            refine ok_go 3 ?_
            refine sy_load 0 (r := indexAddrOp Try.prog 27 (.slice (some ⟨b0, 0, none⟩) N c) (.int .i64 (xorI (Int.ofNat x) (Int.ofNat k)))) (h' := g) (by kernel_rfl) (by rw [hxor]; exact idxB hx') ?_
            refine ok_go 1 ?_
            refine sy_load 0 (r := loadT Try.prog g 4 (ptr b0 (x ^^^ k))) (h' := g) (by kernel_rfl) (A.read hx') ?_
            refine ok_go 3 ?_
            refine sy_test 0 (f x == f (x ^^^ k)) (by kernel_rfl) ?_ ?_
            · intro h4
              rw [BEq.comm] at h4
              refine ok_go 0 ?_
              exact sy_done 0 (v := .bool false) (h := g) (by kernel_rfl) ⟨by rw [← hub, h3, h4]; rfl, rfl⟩
            · intro h4
              rw [BEq.comm] at h4
              have hor : orI (Int.ofNat u) (Int.ofNat k) = Int.ofNat (u ||| k) := or_nat (by omega) (by omega)
              refine ok_go 0 ?_
              refine sy_load 0 (r := indexAddrOp Try.prog 50 (.slice la w.length lc) (J i)) (h' := g) (by kernel_rfl) e1 ?_
              refine ok_go 0 ?_
              refine sy_load 0 (r := loadT Try.prog g 3 p) (h' := g) (by kernel_rfl) e2 ?_
              refine ok_go 2 ?_
              exact sy_next 0 _ g (by kernel_rfl) (by kernel_rfl) (ih (i + 1, u ||| k, k) _ g ⟨hlt, hos u k hu hkN, hkN, ⟨fun hc => absurd hc (by omega), fun _ => ⟨by rw [show i + 1 - 1 = i from rfl, hwi], by omega⟩⟩, by rw [← hub, h3, h4]; rfl, rfl⟩ (show w.length - (i + 1) < w.length - i by omega) ⟨by kernel_rfl, by kernel_rfl, by kernel_rfl, (by kernel_rfl : _ = Value.int .i64 (orI (Int.ofNat u) (Int.ofNat k))).trans (by rw [hor]), (by kernel_rfl : _ = Value.int .i64 (IntKind.wrap .i64 (Int.ofNat (i + 1)))).trans (by rw [wrap_nat (by omega)]), trivial⟩)
  · intro hlt
    have hlt := no_nat hlt
    have hiN : i = w.length := by omega
    rw [hiN, List.drop_length] at hbl
    refine ok_go 0 ?_
    exact sy_done 0 (v := .bool true) (h := g) (by kernel_rfl) ⟨by rw [← hbl]; rfl, rfl⟩
end Go.Proofs.Ytnfboopfpkaeaaa
/- SeesI: contracts of functions. -/
namespace Go.Proofs.Ytnfboopfpkaeaaa
open Go Go.Eng Nim
set_option maxRecDepth 100000
set_option maxHeartbeats 4000000
/-- There is no such input. -/
theorem isb_no (n lf m : Nat) (x : Int) (ck : ∀ a c h, Ev lf m 54 [.slice a (2 ^ n) c] h = some (J 0, h)) (a : Option Addr) (c : Nat) (l : Value) (h : Hp) (hx : x < 0 ∨ (2 ^ n : Nat) ≤ x) :
    Ev lf (m + 1) 45 [.slice a (2 ^ n) c, I x, l] h = some (.bool false, h) := by
  have ck := ck a c h
  refine fn_eq ?_
  generalize hN : 2 ^ n = N at *
  refine ok_go 0 ?_
  refine sy_call 0 (by kernel_rfl) ck ?_
  refine ok_go 5 ?_
  refine sy_test 0 (decide (x < 0)) (by kernel_rfl) ?_ ?_
  · intro h1
    refine ok_go 5 ?_
    exact sy_done 0 (v := .bool false) (h := h) (by kernel_rfl) ⟨rfl, rfl⟩
  · intro h1
    have h1 := of_decide_eq_false h1
    refine ok_go 6 ?_
    refine sy_yes 0 (b := decide (x ≥ Int.ofNat N)) (by kernel_rfl) (decide_eq_true (by
      rcases hx with h2 | h2
      · exact absurd h2 h1
      · exact h2)) ?_
    refine ok_go 0 ?_
    exact sy_done 0 (v := .bool false) (h := h) (by kernel_rfl) ⟨rfl, rfl⟩
theorem risb_no (n lf m : Nat) (x : Int) (ck : ∀ a c h, Ev lf m 59 [.slice a (2 ^ n) c] h = some (J 0, h)) (a : Option Addr) (c : Nat) (l : Value) (h : Hp) (hx : x < 0 ∨ (2 ^ n : Nat) ≤ x) :
    Ev lf (m + 1) 44 [.slice a (2 ^ n) c, I x, l] h = some (.bool false, h) := by
  have ck := ck a c h
  refine fn_eq ?_
  generalize hN : 2 ^ n = N at *
  refine ok_go 0 ?_
  refine sy_call 0 (by kernel_rfl) ck ?_
  refine ok_go 5 ?_
  refine sy_test 0 (decide (x < 0)) (by kernel_rfl) ?_ ?_
  · intro h1
    refine ok_go 5 ?_
    exact sy_done 0 (v := .bool false) (h := h) (by kernel_rfl) ⟨rfl, rfl⟩
  · intro h1
    have h1 := of_decide_eq_false h1
    refine ok_go 6 ?_
    refine sy_yes 0 (b := decide (x ≥ Int.ofNat N)) (by kernel_rfl) (decide_eq_true (by
      rcases hx with h2 | h2
      · exact absurd h2 h1
      · exact h2)) ?_
    refine ok_go 0 ?_
    exact sy_done 0 (v := .bool false) (h := h) (by kernel_rfl) ⟨rfl, rfl⟩
/-- There is no such bit. -/
theorem infl_no (n lf m : Nat) (x : Int) (ck : ∀ a c h, Ev lf m 54 [.slice a (2 ^ n) c] h = some (J 0, h)) (sz : ∀ h, Ev lf m 56 [J (2 ^ n)] h = some (.tuple #[J n, .bool true], h)) (a : Option Addr) (c : Nat) (h : Hp) (hx : x < 0 ∨ (n : Int) ≤ x) :
    Ev lf (m + 1) 35 [.slice a (2 ^ n) c, I x] h = some (.tuple #[J 0, J 1], h) := by
  have ck := ck a c h
  have sz := sz h
  refine fn_eq ?_
  generalize hN : 2 ^ n = N at *
  refine ok_go 0 ?_
  refine sy_call 0 (by kernel_rfl) ck ?_
  refine ok_go 3 ?_
  refine sy_call 0 (by kernel_rfl) sz ?_
  refine ok_go 3 ?_
  refine sy_test 0 (decide (x < 0)) (by kernel_rfl) ?_ ?_
  · intro h1
    refine ok_go 4 ?_
    exact sy_done 0 (v := .tuple #[J 0, J 1]) (h := h) (by kernel_rfl) ⟨rfl, rfl⟩
  · intro h1
    have h1 := of_decide_eq_false h1
    refine ok_go 4 ?_
    refine sy_yes 0 (b := decide (x ≥ Int.ofNat n)) (by kernel_rfl) (decide_eq_true (by
      rcases hx with h2 | h2
      · exact absurd h2 h1
      · exact h2)) ?_
    refine ok_go 0 ?_
    exact sy_done 0 (v := .tuple #[J 0, J 1]) (h := h) (by kernel_rfl) ⟨rfl, rfl⟩
/-- The influence of a bit, by the reference. -/
theorem rinfl_of (f : Nat → Bool) (n i lf m : Nat) (hn : n ≤ 6) (hlf : 300 ≤ lf) (hi : i < n) (b0 c : Nat) (h : Hp) (A : ArB b0 (2 ^ n) f h) :
    Ev lf (m + 1) 50 [.slice (some ⟨b0, 0, none⟩) (2 ^ n) c, J i] h = some (I (part f i (2 ^ n)), h) := by
  have hp64 : 2 ^ n ≤ 64 := Nat.pow_le_pow_right (n := 2) (by decide) hn
  have hfl : ∀ x, x < 2 ^ n → x ^^^ 2 ^ i < 2 ^ n := fun x hx => flip_lt hi hx
  have hpi : 2 ^ i ≤ 64 := Nat.le_trans (Nat.pow_le_pow_right (n := 2) (by decide) (Nat.le_of_lt hi)) hp64
  have hsh := shl_nat (i := i) (by omega)
  refine fn_eq ?_
  generalize hN : 2 ^ n = N at *
  refine ok_go 0 ?_
  refine sy_loop 0 lf h (α := Nat) (fun s => [(0, .slice (some ⟨b0, 0, none⟩) N c), (1, J i), (5, I (part f i s)), (6, J s)]) (fun s g => s ≤ N ∧ g = h) (fun s _ => N - s) 0 (by kernel_rfl) (by kernel_rfl) ⟨by kernel_rfl, by kernel_rfl, by kernel_rfl, by kernel_rfl, trivial⟩ (show N - 0 < lf by omega) ⟨Nat.zero_le _, rfl⟩ ?_
  rintro m1 k f1 g ⟨hk, rfl⟩ ih
  refine ok_go 2 ?_
  refine sy_test 0 (decide (Int.ofNat k < Int.ofNat N)) (by kernel_rfl) ?_ ?_
  · intro hlt
    have hlt := ok_nat hlt
    have hx := hfl k hlt
    have hpl := part_le f i k
    have hxor : xorI (Int.ofNat k) (IntKind.wrap .i64 (1 * 2 ^ min (IntKind.wrap .u64 (Int.ofNat i)).toNat IntKind.i64.bits)) = Int.ofNat (k ^^^ 2 ^ i) := by
      rw [hsh, xor_nat (by omega) (by omega)]
    refine ok_go 0 ?_
    refine sy_load 0 (r := indexAddrOp Try.prog 27 (.slice (some ⟨b0, 0, none⟩) N c) (J k)) (h' := g) (by kernel_rfl) (idxB hlt) ?_
    refine ok_go 0 ?_
    refine sy_load 0 (r := loadT Try.prog g 4 (ptr b0 k)) (h' := g) (by kernel_rfl) (A.read hlt) ?_
    refine ok_go 3 ?_
    refine sy_load 0 (r := indexAddrOp Try.prog 27 (.slice (some ⟨b0, 0, none⟩) N c) (.int .i64 (xorI (Int.ofNat k) (IntKind.wrap .i64 (1 * 2 ^ min (IntKind.wrap .u64 (Int.ofNat i)).toNat IntKind.i64.bits))))) (h' := g) (by kernel_rfl) (by rw [hxor]; exact idxB hx) ?_
    refine ok_go 0 ?_
    refine sy_load 0 (r := loadT Try.prog g 4 (ptr b0 (k ^^^ 2 ^ i))) (h' := g) (by kernel_rfl) (A.read hx) ?_
    refine ok_go 1 ?_
    refine sy_test 0 (f k != f (k ^^^ 2 ^ i)) (by kernel_rfl) ?_ ?_
    · intro ht
      refine ok_go 2 ?_
      exact sy_next 0 _ g (by kernel_rfl) (by kernel_rfl) (ih (k + 1) _ g ⟨hlt, rfl⟩ (show N - (k + 1) < N - k by omega) ⟨by kernel_rfl, by kernel_rfl, (by kernel_rfl : _ = I (IntKind.wrap .i64 (part f i k + 1))).trans (by
        rw [part_succ, if_pos (fun e => by rw [e] at ht; simp at ht), wrap_int (by omega) (by omega)]), (by kernel_rfl : _ = Value.int .i64 (IntKind.wrap .i64 (Int.ofNat (k + 1)))).trans (by rw [wrap_nat (by omega)]), trivial⟩)
    · intro ht
      refine ok_go 1 ?_
      exact sy_next 0 _ g (by kernel_rfl) (by kernel_rfl) (ih (k + 1) _ g ⟨hlt, rfl⟩ (show N - (k + 1) < N - k by omega) ⟨by kernel_rfl, by kernel_rfl, (by kernel_rfl : _ = I (part f i k)).trans (by
        rw [part_succ, if_neg (fun e => by have : f k = f (k ^^^ 2 ^ i) := by simpa using ht
                                           exact e this.symm), Int.add_zero]), (by kernel_rfl : _ = Value.int .i64 (IntKind.wrap .i64 (Int.ofNat (k + 1)))).trans (by rw [wrap_nat (by omega)]), trivial⟩)
  · intro hlt
    have hlt := no_nat hlt
    have hkN : k = N := by omega
    subst hkN
    refine ok_go 0 ?_
    exact sy_done 0 (v := I (part f i k)) (h := g) (by kernel_rfl) ⟨rfl, rfl⟩
end Go.Proofs.Ytnfboopfpkaeaaa
/- SeesJ: contracts of functions. -/
namespace Go.Proofs.Ytnfboopfpkaeaaa
open Go Go.Eng Nim
set_option maxRecDepth 100000
set_option maxHeartbeats 4000000
/-- 1 if x is sensitive to a block. -/
def sb (f : Nat → Bool) (x k : Nat) : Int := if (f x != f (x ^^^ k)) = true then 1 else 0
theorem sb_le (f : Nat → Bool) (x k : Nat) : 0 ≤ sb f x k ∧ sb f x k ≤ 1 := by unfold sb; split <;> decide
/-- The most blocks within m, of the first masks as one block of them. -/
def rin (f : Nat → Bool) (x : Nat) (B : Nat → Int) (m : Nat) : Nat → Int
  | 0 => 0
  | j + 1 => if sub (j + 1) m = true then max (rin f x B m j) (B (m ^^^ (j + 1)) + sb f x (j + 1)) else rin f x B m j
/-- The table when the masks below m are done. -/
def rt (f : Nat → Bool) (x : Nat) : Nat → Nat → Int
  | 0 => fun _ => 0
  | m + 1 => fun y => if y = m then rin f x (rt f x m) m m else rt f x m y
theorem rt_zero (f : Nat → Bool) (x : Nat) : ∀ m y, m ≤ y → rt f x m y = 0
  | 0, _, _ => rfl
  | m + 1, y, h => by
    rw [rt]
    show (if y = m then rin f x (rt f x m) m m else rt f x m y) = 0
    rw [if_neg (by omega), rt_zero f x m y (by omega)]
noncomputable def xltB (m k : Nat) : Bool := (Nat.beq (k &&& m) k).not || Nat.beq k 0 || Nat.blt (m ^^^ k) m
theorem xlt_all : allB 64 (fun m => allB 64 fun k => xltB m k) = true := by kernel_rfl
theorem xlt {m k : Nat} (hm : m < 64) (hk : k < 64) (h0 : 0 < k) (hs : k &&& m = k) : m ^^^ k < m := by
  have h := allB_ok (allB_ok xlt_all m hm) k hk
  unfold xltB at h
  rw [hs, Nat.beq_refl, Bool.not_true, Bool.false_or, Bool.or_eq_true] at h
  rcases h with h | h
  · have := Nat.eq_of_beq_eq_true h; omega
  · exact Nat.le_of_ble_eq_true h
theorem rin_le (f : Nat → Bool) (x : Nat) (B : Nat → Int) (m : Nat) (hm : m < 64) (hB : ∀ y, 0 ≤ B y ∧ (y < m → B y ≤ y)) : ∀ j, j ≤ m → 0 ≤ rin f x B m j ∧ rin f x B m j ≤ m
  | 0, _ => ⟨Int.le_refl _, by exact Int.natCast_nonneg m⟩
  | j + 1, hj => by
    have ih := rin_le f x B m hm hB j (by omega)
    unfold rin
    split
    · rename_i hs
      have hs' : (j + 1) &&& m = j + 1 := eq_of_beq hs
      have h1 := xlt hm (by omega) (by omega) hs'
      have h2 := hB (m ^^^ (j + 1))
      have h3 := h2.2 h1
      have h4 := sb_le f x (j + 1)
      omega
    · exact ih
theorem rt_le (f : Nat → Bool) (x : Nat) : ∀ m, m ≤ 64 → ∀ y, 0 ≤ rt f x m y ∧ rt f x m y ≤ y
  | 0, _, y => ⟨Int.le_refl _, Int.natCast_nonneg y⟩
  | m + 1, hm, y => by
    have ih := rt_le f x m (by omega)
    unfold rt
    split
    · rename_i e
      rw [e]
      exact rin_le f x _ m (by omega) (fun y => ⟨(ih y).1, fun _ => (ih y).2⟩) m (Nat.le_refl _)
    · exact ih y
/-- The number of blocks at x. -/
def rb (f : Nat → Bool) (N x : Nat) : Int := rt f x N (N - 1)

theorem rblocks_of (f : Nat → Bool) (n : Nat) (hn : n ≤ 6) (lf m0 : Nat) (hlf : 300 ≤ lf) (b0 c : Nat) (h : Hp) (A : ArB b0 (2 ^ n) f h) :
    ∃ v h', Ev lf (m0 + 1) 46 [.slice (some ⟨b0, 0, none⟩) (2 ^ n) c] h = some (v, h') ∧ v = I (mz (rb f (2 ^ n)) (2 ^ n)) ∧ h.Ext h' := by
  have hp64 : 2 ^ n ≤ 64 := Nat.pow_le_pow_right (n := 2) (by decide) hn
  have hp0 : 1 ≤ 2 ^ n := Nat.one_le_two_pow
  have hxs : ∀ x s, x < 2 ^ n → s < 2 ^ n → x ^^^ s < 2 ^ n := fun x s hx hs => xor_small hx hs
  refine fnS_ok (Q := fun v h' => v = I (mz (rb f (2 ^ n)) (2 ^ n)) ∧ h.Ext h') ?_
  generalize hN : 2 ^ n = N at *
  refine ok_go 0 ?_
  refine sy_loop 0 lf h (α := Nat) (fun x => [(0, .slice (some ⟨b0, 0, none⟩) N c), (3, I (mz (rb f N) x)), (4, J x)]) (fun x g => x ≤ N ∧ h.Ext g) (fun x _ => N - x) 0 (by kernel_rfl) (by kernel_rfl) ⟨by kernel_rfl, by kernel_rfl, by kernel_rfl, trivial⟩ (by omega) ⟨Nat.zero_le _, Hp.Ext.refl _⟩ ?_
  rintro m1 x f1 g ⟨hx, X⟩ ih
  refine ok_go 2 ?_
  refine sy_test 0 (decide (Int.ofNat x < Int.ofNat N)) (by kernel_rfl) ?_ ?_
  · intro hlt
    have hlt := ok_nat hlt
    have hwx : IntKind.wrap .i64 (Int.ofNat (x + 1)) = Int.ofNat (x + 1) := wrap_nat (by omega)
    refine ok_go 1 ?_
    refine sy_call 0 (r := makeSliceOp Try.prog g 50 (J N) (J N)) (v := .slice (some ⟨g.next, 0, none⟩) N (2 * N)) (h' := g.new (.cells (zeros [I 0] N) 3 false)) (by kernel_rfl) (makeSl (z := I 0) (inf := (Try.prog.info? 3).get!) uI (by kernel_rfl) (by kernel_rfl) (by kernel_rfl) (by kernel_rfl) (by kernel_rfl) (by omega)) ?_
    have B0 : ArI g.next N (fun _ => 0) (g.new (.cells (zeros [I 0] N) 3 false)) := ⟨Nat.lt_succ_self _, false, by rw [zeros_one]; exact get_new _ _⟩
    have X0 : h.Ext (g.new (.cells (zeros [I 0] N) 3 false)) := X.trans (Hp.Ext.new _ _)
    generalize hh0 : g.new (.cells (zeros [I 0] N) 3 false) = h0 at B0 X0
    clear hh0
    have hbx := X.next
    generalize g.next = bb at B0 hbx
    refine ok_go 0 ?_
    refine sy_loop 0 lf h0 (α := Nat) (fun m => [(0, .slice (some ⟨b0, 0, none⟩) N c), (3, I (mz (rb f N) x)), (4, J x), (5, .slice (some ⟨bb, 0, none⟩) N (2 * N)), (6, J m)]) (fun m q => m ≤ N ∧ h.Ext q ∧ ArI bb N (rt f x m) q) (fun m _ => N - m) 0 (by kernel_rfl) (by kernel_rfl) ⟨by kernel_rfl, by kernel_rfl, by kernel_rfl, by kernel_rfl, by kernel_rfl, trivial⟩ (by omega) ⟨Nat.zero_le _, X0, B0⟩ ?_
    rintro m2 m f2 q ⟨hm, Xq, Bq⟩ ih2
    refine ok_go 2 ?_
    refine sy_test 0 (decide (Int.ofNat m < Int.ofNat N)) (by kernel_rfl) ?_ ?_
    · intro hl2
      have hl2 := ok_nat hl2
      have hwm : IntKind.wrap .i64 (Int.ofNat (m + 1)) = Int.ofNat (m + 1) := wrap_nat (by omega)
      have hrt := rt_le f x m (by omega)
      have B1 : ArI bb N (fun y => if y = m then rin f x (rt f x m) m 0 else rt f x m y) q := by
        have e : (fun y => if y = m then rin f x (rt f x m) m 0 else rt f x m y) = rt f x m := by
          funext y
          split
          · rename_i e; rw [e, rt_zero f x m m (Nat.le_refl _)]; rfl
          · rfl
        rw [e]; exact Bq
      refine ok_go 0 ?_
      refine sy_loop 0 lf q (α := Nat) (fun j => [(0, .slice (some ⟨b0, 0, none⟩) N c), (3, I (mz (rb f N) x)), (4, J x), (5, .slice (some ⟨bb, 0, none⟩) N (2 * N)), (6, J m), (7, J (j + 1))]) (fun j p => j ≤ m ∧ h.Ext p ∧ ArI bb N (fun y => if y = m then rin f x (rt f x m) m j else rt f x m y) p) (fun j _ => m - j) 0 (by kernel_rfl) (by kernel_rfl) ⟨by kernel_rfl, by kernel_rfl, by kernel_rfl, by kernel_rfl, by kernel_rfl, by kernel_rfl, trivial⟩ (by omega) ⟨Nat.zero_le _, Xq, B1⟩ ?_
      rintro m3 j f3 p ⟨hj, Xp, Bp⟩ ih3
      refine ok_go 1 ?_
      refine sy_test 0 (decide (Int.ofNat (j + 1) ≤ Int.ofNat m)) (by kernel_rfl) ?_ ?_
      · intro hl3
        have hl3 : j + 1 ≤ m := by have := of_decide_eq_true hl3; simp at this; omega
        have hwj : IntKind.wrap .i64 (Int.ofNat (j + 2)) = Int.ofNat (j + 2) := wrap_nat (by omega)
        have hsub : (andI (Int.ofNat (j + 1)) (Int.ofNat m) != Int.ofNat (j + 1)) = !(sub (j + 1) m) := by
          rw [and_nat (by omega), ne_int]; rfl
        refine ok_go 2 ?_
        refine sy_test 0 (andI (Int.ofNat (j + 1)) (Int.ofNat m) != Int.ofNat (j + 1)) (by kernel_rfl) ?_ ?_
        · intro hs
          have hs : sub (j + 1) m = false := by rw [hsub] at hs; simpa using hs
          refine ok_go 1 ?_
          exact sy_next 0 _ p (by kernel_rfl) (by kernel_rfl) (ih3 (j + 1) _ p ⟨hl3, Xp, by
            have e : rin f x (rt f x m) m (j + 1) = rin f x (rt f x m) m j := by rw [rin, if_neg (by rw [hs]; decide)]
            rw [e]; exact Bp⟩ (show m - (j + 1) < m - j by omega) ⟨by kernel_rfl, by kernel_rfl, by kernel_rfl, by kernel_rfl, by kernel_rfl, (by kernel_rfl : _ = Value.int .i64 (IntKind.wrap .i64 (Int.ofNat (j + 2)))).trans (by rw [hwj]), trivial⟩)
        · intro hs
          have hs : sub (j + 1) m = true := by rw [hsub] at hs; simpa using hs
          have hs' : (j + 1) &&& m = j + 1 := eq_of_beq hs
          have h1 := xlt (by omega) (by omega) (by omega) hs'
          have hxor : xorI (Int.ofNat m) (Int.ofNat (j + 1)) = Int.ofNat (m ^^^ (j + 1)) := xor_nat (by omega) (by omega)
          have hx' := hxs x (j + 1) hlt (by omega)
          have hxor2 : xorI (Int.ofNat x) (Int.ofNat (j + 1)) = Int.ofNat (x ^^^ (j + 1)) := xor_nat (by omega) (by omega)
          have rd := Bp.read (x := m ^^^ (j + 1)) (by omega)
          rw [if_neg (by omega)] at rd
          have rd2 := Bp.read (x := m) (by omega)
          rw [if_pos rfl] at rd2
          have Ap := A.ext Xp
          have hv := hrt (m ^^^ (j + 1))
          have hri := rin_le f x (rt f x m) m (by omega) (fun y => ⟨(hrt y).1, fun _ => (hrt y).2⟩) j (by omega)
          have hsb := sb_le f x (j + 1)
          obtain ⟨p', e', S, n', o'⟩ := Bp.store (x := m) (by omega) (rin f x (rt f x m) m (j + 1))
          have Xp' : h.Ext p' := ext_of Xp hbx n' o'
          have S' : ArI bb N (fun y => if y = m then rin f x (rt f x m) m (j + 1) else rt f x m y) p' := by
            have e : (fun y => if y = m then rin f x (rt f x m) m (j + 1) else if y = m then rin f x (rt f x m) m j else rt f x m y) = fun y => if y = m then rin f x (rt f x m) m (j + 1) else rt f x m y := by
              funext y
              split <;> rfl
            rw [← e]; exact S
          refine ok_go 1 ?_
          refine sy_load 0 (r := indexAddrOp Try.prog 50 (.slice (some ⟨bb, 0, none⟩) N (2 * N)) (.int .i64 (xorI (Int.ofNat m) (Int.ofNat (j + 1))))) (h' := p) (by kernel_rfl) (by rw [hxor]; exact idxI (by omega)) ?_
          refine ok_go 0 ?_
          refine sy_load 0 (r := loadT Try.prog p 3 (ptr bb (m ^^^ (j + 1)))) (h' := p) (by kernel_rfl) rd ?_
          refine ok_go 0 ?_
          refine sy_load 0 (r := indexAddrOp Try.prog 27 (.slice (some ⟨b0, 0, none⟩) N c) (J x)) (h' := p) (by kernel_rfl) (idxB hlt) ?_
          refine ok_go 0 ?_
          refine sy_load 0 (r := loadT Try.prog p 4 (ptr b0 x)) (h' := p) (by kernel_rfl) (Ap.read hlt) ?_
          refine ok_go 1 ?_
          refine sy_load 0 (r := indexAddrOp Try.prog 27 (.slice (some ⟨b0, 0, none⟩) N c) (.int .i64 (xorI (Int.ofNat x) (Int.ofNat (j + 1))))) (h' := p) (by kernel_rfl) (by rw [hxor2]; exact idxB hx') ?_
          refine ok_go 0 ?_
          refine sy_load 0 (r := loadT Try.prog p 4 (ptr b0 (x ^^^ (j + 1)))) (h' := p) (by kernel_rfl) (Ap.read hx') ?_
          refine ok_go 1 ?_
          refine sy_test 0 (f x != f (x ^^^ (j + 1))) (by kernel_rfl) ?_ ?_
          · intro ht
            have hval : rin f x (rt f x m) m (j + 1) = (if IntKind.i64.wrap (rt f x m (m ^^^ (j + 1)) + 1) > rin f x (rt f x m) m j then IntKind.i64.wrap (rt f x m (m ^^^ (j + 1)) + 1) else rin f x (rt f x m) m j) := by
              rw [max_int, rin, if_pos hs, sb, if_pos ht, wrap_int (by omega) (by omega)]
            refine ok_go 1 ?_
            refine sy_load 0 (r := indexAddrOp Try.prog 50 (.slice (some ⟨bb, 0, none⟩) N (2 * N)) (J m)) (h' := p) (by kernel_rfl) (idxI (by omega)) ?_
            refine ok_go 0 ?_
            refine sy_load 0 (r := loadT Try.prog p 3 (ptr bb m)) (h' := p) (by kernel_rfl) rd2 ?_
            refine ok_go 1 ?_
            refine sy_load 0 (r := indexAddrOp Try.prog 50 (.slice (some ⟨bb, 0, none⟩) N (2 * N)) (J m)) (h' := p) (by kernel_rfl) (idxI (by omega)) ?_
            refine ok_go 0 ?_
            refine sy_store 0 (r := storeT Try.prog p 3 (ptr bb m) (I (if IntKind.i64.wrap (rt f x m (m ^^^ (j + 1)) + 1) > rin f x (rt f x m) m j then IntKind.i64.wrap (rt f x m (m ^^^ (j + 1)) + 1) else rin f x (rt f x m) m j))) (h' := p') (by kernel_rfl) (by rw [← hval]; exact e') ?_
            refine ok_go 1 ?_
            exact sy_next 0 _ p' (by kernel_rfl) (by kernel_rfl) (ih3 (j + 1) _ p' ⟨hl3, Xp', S'⟩ (show m - (j + 1) < m - j by omega) ⟨by kernel_rfl, by kernel_rfl, by kernel_rfl, by kernel_rfl, by kernel_rfl, (by kernel_rfl : _ = Value.int .i64 (IntKind.wrap .i64 (Int.ofNat (j + 2)))).trans (by rw [hwj]), trivial⟩)
          · intro ht
            have hval : rin f x (rt f x m) m (j + 1) = (if rt f x m (m ^^^ (j + 1)) > rin f x (rt f x m) m j then rt f x m (m ^^^ (j + 1)) else rin f x (rt f x m) m j) := by
              rw [max_int, rin, if_pos hs, sb, if_neg (by rw [ht]; decide), Int.add_zero]
            refine ok_go 0 ?_
            refine sy_load 0 (r := indexAddrOp Try.prog 50 (.slice (some ⟨bb, 0, none⟩) N (2 * N)) (J m)) (h' := p) (by kernel_rfl) (idxI (by omega)) ?_
            refine ok_go 0 ?_
            refine sy_load 0 (r := loadT Try.prog p 3 (ptr bb m)) (h' := p) (by kernel_rfl) rd2 ?_
            refine ok_go 1 ?_
            refine sy_load 0 (r := indexAddrOp Try.prog 50 (.slice (some ⟨bb, 0, none⟩) N (2 * N)) (J m)) (h' := p) (by kernel_rfl) (idxI (by omega)) ?_
            refine ok_go 0 ?_
            refine sy_store 0 (r := storeT Try.prog p 3 (ptr bb m) (I (if rt f x m (m ^^^ (j + 1)) > rin f x (rt f x m) m j then rt f x m (m ^^^ (j + 1)) else rin f x (rt f x m) m j))) (h' := p') (by kernel_rfl) (by rw [← hval]; exact e') ?_
            refine ok_go 1 ?_
            exact sy_next 0 _ p' (by kernel_rfl) (by kernel_rfl) (ih3 (j + 1) _ p' ⟨hl3, Xp', S'⟩ (show m - (j + 1) < m - j by omega) ⟨by kernel_rfl, by kernel_rfl, by kernel_rfl, by kernel_rfl, by kernel_rfl, (by kernel_rfl : _ = Value.int .i64 (IntKind.wrap .i64 (Int.ofNat (j + 2)))).trans (by rw [hwj]), trivial⟩)
      · intro hl3
        have hjm : j = m := by have := of_decide_eq_false hl3; simp at this; omega
        subst hjm
        refine ok_go 1 ?_
        exact sy_next 0 _ p (by kernel_rfl) (by kernel_rfl) (ih2 (j + 1) _ p ⟨hl2, Xp, Bp⟩ (show N - (j + 1) < N - j by omega) ⟨by kernel_rfl, by kernel_rfl, by kernel_rfl, by kernel_rfl, (by kernel_rfl : _ = Value.int .i64 (IntKind.wrap .i64 (Int.ofNat (j + 1)))).trans (by rw [hwm]), trivial⟩)
    · intro hl2
      have hmN : m = N := by have := no_nat hl2; omega
      subst hmN
      have hw1 : IntKind.i64.wrap (Int.ofNat m - 1) = Int.ofNat (m - 1) := by
        rw [show Int.ofNat m - 1 = Int.ofNat (m - 1) by simp; omega, wrap_nat (by omega)]
      refine ok_go 2 ?_
      refine sy_load 0 (r := indexAddrOp Try.prog 50 (.slice (some ⟨bb, 0, none⟩) m (2 * m)) (.int .i64 (IntKind.i64.wrap (Int.ofNat m - 1)))) (h' := q) (by kernel_rfl) (by rw [hw1]; exact idxI (by omega)) ?_
      refine ok_go 0 ?_
      refine sy_load 0 (r := loadT Try.prog q 3 (ptr bb (m - 1))) (h' := q) (v := I (rb f m x)) (by kernel_rfl) (Bq.read (by omega)) ?_
      refine ok_go 2 ?_
      exact sy_next 0 _ q (by kernel_rfl) (by kernel_rfl) (ih (x + 1) _ q ⟨hlt, Xq⟩ (show m - (x + 1) < m - x by omega) ⟨by kernel_rfl, (by kernel_rfl : _ = I (if rb f m x > mz (rb f m) x then rb f m x else mz (rb f m) x)).trans (by rw [max_int]; rfl), (by kernel_rfl : _ = Value.int .i64 (IntKind.wrap .i64 (Int.ofNat (x + 1)))).trans (by rw [hwx]), trivial⟩)
  · intro hlt
    have hlt := no_nat hlt
    have hxN : x = N := by omega
    subst hxN
    refine ok_go 0 ?_
    exact sy_done 0 (v := I (mz (rb f x) x)) (h := g) (by kernel_rfl) ⟨rfl, X⟩
end Go.Proofs.Ytnfboopfpkaeaaa
/- SeesK: contracts of functions. -/
namespace Go.Proofs.Ytnfboopfpkaeaaa
open Go Go.Eng Nim
set_option maxRecDepth 100000
set_option maxHeartbeats 4000000
theorem nan_of (lf m : Nat) (a : Int) (h : Hp) : Ev lf (m + 1) 121 [I a] h = some (.bool false, h) := by
  refine fn_eq ?_
  refine ok_go 1 ?_
  exact sy_done 0 (v := .bool (a != a)) (h := h) (by kernel_rfl) ⟨by rw [bne_self_eq_false], rfl⟩
theorem less_of (lf m : Nat) (a b : Int) (h : Hp) : Ev lf (m + 2) 113 [I a, I b] h = some (.bool (decide (a < b)), h) := by
  refine fn_eq ?_
  refine ok_go 1 ?_
  refine sy_no 0 (b := (a != a)) (by kernel_rfl) (bne_self_eq_false _) ?_
  refine ok_go 8 ?_
  exact sy_done 0 (v := .bool (decide (a < b))) (h := h) (by kernel_rfl) ⟨rfl, rfl⟩
/-- A list of ints in a block. -/
def LiI (b : Nat) (zs : List Int) (h : Hp) : Prop := b < h.next ∧ ∃ opn, h.get b = some (.cells (zs.map I) 3 opn)
theorem LiI.read {b : Nat} {zs : List Int} {h : Hp} (H : LiI b zs h) {k : Nat} {z : Int} (hk : zs[k]? = some z) : loadT Try.prog h 3 (ptr b k) = some (I z) := by
  obtain ⟨_, o, e⟩ := H
  exact load1 agI e (by rw [List.getElem?_map, hk]; rfl)
theorem LiI.store {b : Nat} {zs : List Int} {h : Hp} (H : LiI b zs h) {k : Nat} (hk : k < zs.length) (z : Int) : ∃ g, storeT Try.prog h 3 (ptr b k) (I z) = some g ∧ LiI b (zs.set k z) g ∧ g.next = h.next ∧ ∀ j, j ≠ b → g.get j = h.get j := by
  obtain ⟨hb, o, e⟩ := H
  refine ⟨_, store1 zI rfl e (by simpa using hk), ⟨hb, o, ?_⟩, rfl, fun j hj => Hp.get_put_ne hj⟩
  rw [get_put, ← List.map_set]
/-- The first i + 1 are sorted but for the one at j, which is not greater than those behind it. -/
def Srt (zs : List Int) (i j : Nat) : Prop := (∀ p q (hp : p < zs.length) (hq : q < zs.length), p < q → q ≤ i → p ≠ j → q ≠ j → zs[p] ≤ zs[q]) ∧ ∀ q (hj : j < zs.length) (hq : q < zs.length), j < q → q ≤ i → zs[j] ≤ zs[q]
theorem srt_end {zs : List Int} {i j : Nat} (hj : j ≤ i) (hi : i < zs.length) (S : Srt zs i j) (h : j = 0 ∨ ∃ hj1 : j - 1 < zs.length, ∃ hj0 : j < zs.length, zs[j - 1] ≤ zs[j]) : ∀ p q (hp : p < zs.length) (hq : q < zs.length), p < q → q ≤ i → zs[p] ≤ zs[q] := by
  intro p q hp hq hpq hqi
  by_cases h1 : p = j
  · subst h1; exact S.2 q hp hq hpq hqi
  · by_cases h2 : q = j
    · subst h2
      rcases h with h | ⟨h3, h4, h5⟩
      · omega
      · by_cases h6 : p = q - 1
        · subst h6; exact h5
        · exact Int.le_trans (S.1 p (q - 1) hp h3 (by omega) (by omega) (by omega) (by omega)) h5
    · exact S.1 p q hp hq hpq hqi h1 h2
theorem srt_step {zs : List Int} {i j : Nat} (hj0 : 0 < j) (hj : j < zs.length) (hi : j ≤ i) (S : Srt zs i j) (h : zs[j] < zs[j - 1]) : Srt ((zs.set j zs[j - 1]).set (j - 1) zs[j]) i (j - 1) := by
  have gv : ∀ r (hr : r < ((zs.set j zs[j - 1]).set (j - 1) zs[j]).length) (hr' : r < zs.length), r ≠ j - 1 → r ≠ j → ((zs.set j zs[j - 1]).set (j - 1) zs[j])[r] = zs[r] := fun r hr hr' h1 h2 => by
    rw [List.getElem_set_ne (fun e => h1 e.symm), List.getElem_set_ne (fun e => h2 e.symm)]
  have gj : ∀ (hr : j < ((zs.set j zs[j - 1]).set (j - 1) zs[j]).length), ((zs.set j zs[j - 1]).set (j - 1) zs[j])[j] = zs[j - 1] := fun hr => by
    rw [List.getElem_set_ne (by omega), List.getElem_set_self]
  have gi : ∀ (hr : j - 1 < ((zs.set j zs[j - 1]).set (j - 1) zs[j]).length), ((zs.set j zs[j - 1]).set (j - 1) zs[j])[j - 1] = zs[j] := fun hr => by
    rw [List.getElem_set_self]
  have hlen : ((zs.set j zs[j - 1]).set (j - 1) zs[j]).length = zs.length := by simp
  refine ⟨fun p q hp hq hpq hqi h1 h2 => ?_, fun q hj' hq hpq hqi => ?_⟩
  · have hp' : p < zs.length := by omega
    have hq' : q < zs.length := by omega
    by_cases h3 : p = j
    · subst h3
      rw [gj hp, gv q hq hq' h2 (by omega)]
      exact S.1 (p - 1) q (by omega) hq' (by omega) hqi (by omega) (by omega)
    · rw [gv p hp hp' h1 h3]
      by_cases h4 : q = j
      · subst h4
        rw [gj hq]
        exact S.1 p (q - 1) hp' (by omega) (by omega) (by omega) (by omega) (by omega)
      · rw [gv q hq hq' h2 h4]
        exact S.1 p q hp' hq' hpq hqi h3 h4
  · have hq' : q < zs.length := by omega
    rw [gi hj']
    by_cases h4 : q = j
    · subst h4
      rw [gj hq]
      exact Int.le_of_lt h
    · rw [gv q hq hq' (by omega) h4]
      exact S.2 q hj hq' (by omega) hqi
theorem swap_perm {zs : List Int} {i j : Nat} (hi : i < zs.length) (hj : j < zs.length) : ((zs.set i zs[j]).set j zs[i]).Perm zs := List.set_set_perm hi hj

theorem insert_of (lf m b c : Nat) (hlf : 300 ≤ lf) (zs : List Int) (hz : zs.length ≤ 64) (h : Hp) (H : LiI b zs h) (ls : ∀ a b h, Ev lf m 113 [I a, I b] h = some (.bool (decide (a < b)), h)) :
    ∃ v h', Ev lf (m + 1) 107 [.slice (some ⟨b, 0, none⟩) zs.length c, J 0, J zs.length] h = some (v, h') ∧ ∃ ys : List Int, ys.Perm zs ∧ (∀ p q (hp : p < ys.length) (hq : q < ys.length), p < q → ys[p] ≤ ys[q]) ∧ LiI b ys h' ∧ h'.next = h.next ∧ ∀ j, j ≠ b → h'.get j = h.get j := by
  refine fnS_ok (Q := fun v h' => ∃ ys : List Int, ys.Perm zs ∧ (∀ p q (hp : p < ys.length) (hq : q < ys.length), p < q → ys[p] ≤ ys[q]) ∧ LiI b ys h' ∧ h'.next = h.next ∧ ∀ j, j ≠ b → h'.get j = h.get j) ?_
  generalize hN : zs.length = N at *
  refine ok_go 1 ?_
  refine sy_loop 0 lf h (α := Nat × List Int) (fun s => [(0, .slice (some ⟨b, 0, none⟩) N c), (1, J 0), (2, J N), (6, J (s.1 + 1))]) (fun s g => s.1 ≤ N ∧ s.2.Perm zs ∧ (∀ p q (hp : p < s.2.length) (hq : q < s.2.length), p < q → q ≤ s.1 → s.2[p] ≤ s.2[q]) ∧ LiI b s.2 g ∧ g.next = h.next ∧ ∀ j, j ≠ b → g.get j = h.get j) (fun s _ => N - s.1) (0, zs) (by kernel_rfl) (by kernel_rfl) ⟨by kernel_rfl, by kernel_rfl, by kernel_rfl, by kernel_rfl, trivial⟩ (show N - 0 < lf by omega) ⟨Nat.zero_le _, .refl _, fun p q hp hq h1 h2 => absurd (show q ≤ 0 from h2) (by omega), H, rfl, fun _ _ => rfl⟩ ?_
  rintro m1 ⟨i, ys⟩ f1 g ⟨hi, hp, hs, L, hn, ho⟩ ih
  dsimp only at hi hp hs L
  have hl : ys.length = N := by rw [hp.length_eq, hN]
  refine ok_go 1 ?_
  refine sy_test 0 (decide (Int.ofNat (i + 1) < Int.ofNat N)) (by kernel_rfl) ?_ ?_
  · intro hlt
    have hlt := ok_nat hlt
    have hwi : IntKind.wrap .i64 (Int.ofNat (i + 2)) = Int.ofNat (i + 2) := wrap_nat (by omega)
    refine ok_go 0 ?_
    refine sy_loop 0 lf g (α := Nat × List Int) (fun s => [(0, .slice (some ⟨b, 0, none⟩) N c), (1, J 0), (2, J N), (6, J (i + 1)), (7, J s.1)]) (fun s q => s.1 ≤ i + 1 ∧ s.2.Perm zs ∧ Srt s.2 (i + 1) s.1 ∧ LiI b s.2 q ∧ q.next = h.next ∧ ∀ j, j ≠ b → q.get j = h.get j) (fun s _ => s.1) (i + 1, ys) (by kernel_rfl) (by kernel_rfl) ⟨by kernel_rfl, by kernel_rfl, by kernel_rfl, by kernel_rfl, by kernel_rfl, trivial⟩ (show i + 1 < lf by omega)
      ⟨Nat.le_refl _, hp, ⟨fun p q hp hq h1 h2 h3 h4 => hs p q hp hq h1 (by show q ≤ i; omega), fun q hj hq h1 h2 => absurd (show q ≤ i + 1 from h2) (by omega)⟩, L, hn, ho⟩ ?_
    rintro m2 ⟨j, ws⟩ f2 q ⟨hj, hpw, S, Lq, hnq, hoq⟩ ih2
    dsimp only at hj hpw S Lq
    have hlw : ws.length = N := by rw [hpw.length_eq, hN]
    refine ok_go 1 ?_
    refine sy_test 0 (decide (Int.ofNat j > 0)) (by kernel_rfl) ?_ ?_
    · intro hj0
      have hj0 : 0 < j := by have := of_decide_eq_true hj0; simp at this; omega
      have hw1 : IntKind.i64.wrap (Int.ofNat j - 1) = Int.ofNat (j - 1) := by
        rw [show Int.ofNat j - 1 = Int.ofNat (j - 1) by simp; omega, wrap_nat (by omega)]
      have hjl : j < ws.length := by omega
      have r1 := Lq.read (k := j) (z := ws[j]) (List.getElem?_eq_getElem hjl)
      have r2 := Lq.read (k := j - 1) (z := ws[j - 1]) (List.getElem?_eq_getElem (by omega))
      refine ok_go 2 ?_
      refine sy_load 0 (r := indexAddrOp Try.prog 50 (.slice (some ⟨b, 0, none⟩) N c) (J j)) (h' := q) (by kernel_rfl) (idxI (by omega)) ?_
      refine ok_go 1 ?_
      refine sy_load 0 (r := loadT Try.prog q 3 (ptr b j)) (h' := q) (by kernel_rfl) r1 ?_
      refine ok_go 5 ?_
      refine sy_load 0 (r := indexAddrOp Try.prog 50 (.slice (some ⟨b, 0, none⟩) N c) (.int .i64 (IntKind.i64.wrap (Int.ofNat j - 1)))) (h' := q) (by kernel_rfl) (by rw [hw1]; exact idxI (by omega)) ?_
      refine ok_go 1 ?_
      refine sy_load 0 (r := loadT Try.prog q 3 (ptr b (j - 1))) (h' := q) (by kernel_rfl) r2 ?_
      refine ok_go 1 ?_
      refine sy_call 0 (by kernel_rfl) (ls ws[j] ws[j - 1] q) ?_
      refine ok_go 1 ?_
      refine sy_test 0 (decide (ws[j] < ws[j - 1])) (by kernel_rfl) ?_ ?_
      · intro hw
        have hw := of_decide_eq_true hw
        obtain ⟨q1, e1, L1, n1, o1⟩ := Lq.store (k := j) (by omega) ws[j - 1]
        obtain ⟨q2, e2, L2, n2, o2⟩ := L1.store (k := j - 1) (by simp; omega) ws[j]
        refine ok_go 2 ?_
        refine sy_load 0 (r := indexAddrOp Try.prog 50 (.slice (some ⟨b, 0, none⟩) N c) (.int .i64 (IntKind.i64.wrap (Int.ofNat j - 1)))) (h' := q) (by kernel_rfl) (by rw [hw1]; exact idxI (by omega)) ?_
        refine ok_go 0 ?_
        refine sy_load 0 (r := loadT Try.prog q 3 (ptr b (j - 1))) (h' := q) (by kernel_rfl) r2 ?_
        refine ok_go 0 ?_
        refine sy_load 0 (r := indexAddrOp Try.prog 50 (.slice (some ⟨b, 0, none⟩) N c) (J j)) (h' := q) (by kernel_rfl) (idxI (by omega)) ?_
        refine ok_go 0 ?_
        refine sy_load 0 (r := loadT Try.prog q 3 (ptr b j)) (h' := q) (by kernel_rfl) r1 ?_
        refine ok_go 0 ?_
        refine sy_load 0 (r := indexAddrOp Try.prog 50 (.slice (some ⟨b, 0, none⟩) N c) (J j)) (h' := q) (by kernel_rfl) (idxI (by omega)) ?_
        refine ok_go 0 ?_
        refine sy_store 0 (r := storeT Try.prog q 3 (ptr b j) (I ws[j - 1])) (h' := q1) (by kernel_rfl) e1 ?_
        refine ok_go 0 ?_
        refine sy_load 0 (r := indexAddrOp Try.prog 50 (.slice (some ⟨b, 0, none⟩) N c) (.int .i64 (IntKind.i64.wrap (Int.ofNat j - 1)))) (h' := q1) (by kernel_rfl) (by rw [hw1]; exact idxI (by omega)) ?_
        refine ok_go 0 ?_
        refine sy_store 0 (r := storeT Try.prog q1 3 (ptr b (j - 1)) (I ws[j])) (h' := q2) (by kernel_rfl) e2 ?_
        refine ok_go 1 ?_
        exact sy_next 0 _ q2 (by kernel_rfl) (by kernel_rfl) (ih2 (j - 1, (ws.set j ws[j - 1]).set (j - 1) ws[j]) _ q2 ⟨by show j - 1 ≤ i + 1; omega, (swap_perm (by omega) (by omega)).trans hpw, srt_step hj0 hjl hj S hw, L2, by rw [n2, n1, hnq], fun x hx => by rw [o2 x hx, o1 x hx, hoq x hx]⟩ (show j - 1 < j by omega) ⟨by kernel_rfl, by kernel_rfl, by kernel_rfl, by kernel_rfl, (by kernel_rfl : _ = Value.int .i64 (IntKind.wrap .i64 (Int.ofNat j - 1))).trans (by rw [hw1]), trivial⟩)
      · intro hw
        have hw := of_decide_eq_false hw
        have hs' := srt_end hj (by omega) S (.inr ⟨by omega, hjl, by omega⟩)
        refine ok_go 1 ?_
        exact sy_next 0 _ q (by kernel_rfl) (by kernel_rfl) (ih (i + 1, ws) _ q ⟨Nat.le_of_lt hlt, hpw, hs', Lq, hnq, hoq⟩ (show N - (i + 1) < N - i by omega) ⟨by kernel_rfl, by kernel_rfl, by kernel_rfl, (by kernel_rfl : _ = Value.int .i64 (IntKind.wrap .i64 (Int.ofNat (i + 2)))).trans (by rw [hwi]), trivial⟩)
    · intro hj0
      have hj0 : j = 0 := by have := of_decide_eq_false hj0; simp at this; omega
      have hs' := srt_end hj (by omega) S (.inl hj0)
      refine ok_go 12 ?_
      exact sy_next 0 _ q (by kernel_rfl) (by kernel_rfl) (ih (i + 1, ws) _ q ⟨Nat.le_of_lt hlt, hpw, hs', Lq, hnq, hoq⟩ (show N - (i + 1) < N - i by omega) ⟨by kernel_rfl, by kernel_rfl, by kernel_rfl, (by kernel_rfl : _ = Value.int .i64 (IntKind.wrap .i64 (Int.ofNat (i + 2)))).trans (by rw [hwi]), trivial⟩)
  · intro hlt
    have hlt := no_nat hlt
    refine ok_go 0 ?_
    exact sy_done 0 (v := undef) (h := g) (by kernel_rfl) ⟨ys, hp, fun p q hp hq h1 => hs p q hp hq h1 (by omega), L, hn, ho⟩
/-- What Sort does to a list of a few ints. -/
def Sorts (lf m g n c : Nat) (l : List Value) (b : Nat) (zs : List Int) (h : Hp) : Prop :=
  ∃ v h', Ev lf m g (.slice (some ⟨b, 0, none⟩) n c :: l) h = some (v, h') ∧ ∃ ys : List Int, ys.Perm zs ∧ (∀ p q (hp : p < ys.length) (hq : q < ys.length), p < q → ys[p] ≤ ys[q]) ∧ LiI b ys h' ∧ h'.next = h.next ∧ ∀ j, j ≠ b → h'.get j = h.get j
theorem pdq_of (lf m b c n lim : Nat) (hlf : 300 ≤ lf) (hn : n ≤ 12) (zs : List Int) (h : Hp) (is : Sorts lf m 107 n c [J 0, J n] b zs h) : Sorts lf (m + 1) 104 n c [J 0, J n, J lim] b zs h := by
  obtain ⟨v, h', e, hy⟩ := is
  refine fnS_ok (Q := fun _ h' => ∃ ys : List Int, ys.Perm zs ∧ (∀ p q (hp : p < ys.length) (hq : q < ys.length), p < q → ys[p] ≤ ys[q]) ∧ LiI b ys h' ∧ h'.next = h.next ∧ ∀ j, j ≠ b → h'.get j = h.get j) ?_
  have hw : IntKind.i64.wrap (Int.ofNat n - 0) = Int.ofNat n := by rw [Int.sub_zero, wrap_nat (by omega)]
  refine sy_loop 0 lf h (α := Unit) (fun _ => [(0, .slice (some ⟨b, 0, none⟩) n c), (1, J 0), (2, J n)]) (fun _ g => g = h) (fun _ _ => 0) () (by kernel_rfl) (by kernel_rfl) ⟨by kernel_rfl, by kernel_rfl, by kernel_rfl, trivial⟩ (by omega) rfl ?_
  rintro m1 _ f1 g rfl ih
  refine ok_go 2 ?_
  refine sy_yes 0 (b := decide (IntKind.i64.wrap (Int.ofNat n - 0) ≤ 12)) (by kernel_rfl) (by rw [hw]; exact decide_eq_true (by simp; omega)) ?_
  refine ok_go 0 ?_
  refine sy_call 0 (by kernel_rfl) e ?_
  refine ok_go 0 ?_
  exact sy_done 0 (v := undef) (h := h') (by kernel_rfl) hy
theorem blen_of (n : Nat) (hn : n ≤ 12) (k : Nat) (h : Hp) : ∃ lim, Ev 100000 (k + 10) 86 [.int .u64 (Int.ofNat n)] h = some (J lim, h) := by
  rcases (by omega : n = 0 ∨ n = 1 ∨ n = 2 ∨ n = 3 ∨ n = 4 ∨ n = 5 ∨ n = 6 ∨ n = 7 ∨ n = 8 ∨ n = 9 ∨ n = 10 ∨ n = 11 ∨ n = 12) with rfl | rfl | rfl | rfl | rfl | rfl | rfl | rfl | rfl | rfl | rfl | rfl | rfl
  · exact ⟨0, by kernel_rfl⟩
  · exact ⟨1, by kernel_rfl⟩
  · exact ⟨2, by kernel_rfl⟩
  · exact ⟨2, by kernel_rfl⟩
  · exact ⟨3, by kernel_rfl⟩
  · exact ⟨3, by kernel_rfl⟩
  · exact ⟨3, by kernel_rfl⟩
  · exact ⟨3, by kernel_rfl⟩
  · exact ⟨4, by kernel_rfl⟩
  · exact ⟨4, by kernel_rfl⟩
  · exact ⟨4, by kernel_rfl⟩
  · exact ⟨4, by kernel_rfl⟩
  · exact ⟨4, by kernel_rfl⟩
theorem sort_of (lf m b c n : Nat) (hn : n ≤ 12) (zs : List Int) (h : Hp) (bn : ∃ lim, Ev lf m 86 [.int .u64 (Int.ofNat n)] h = some (J lim, h)) (ps : ∀ lim, Sorts lf m 104 n c [J 0, J n, J lim] b zs h) : Sorts lf (m + 1) 92 n c [] b zs h := by
  obtain ⟨lim, eb⟩ := bn
  obtain ⟨v, h', e, hy⟩ := ps lim
  refine fnS_ok (Q := fun _ h' => ∃ ys : List Int, ys.Perm zs ∧ (∀ p q (hp : p < ys.length) (hq : q < ys.length), p < q → ys[p] ≤ ys[q]) ∧ LiI b ys h' ∧ h'.next = h.next ∧ ∀ j, j ≠ b → h'.get j = h.get j) ?_
  refine ok_go 2 ?_
  refine sy_call 0 (r := Ev lf m 86 [.int .u64 (IntKind.wrap .u64 (Int.ofNat n))] h) (by kernel_rfl) (by rw [u64_nat (by omega)]; exact eb) ?_
  refine ok_go 0 ?_
  refine sy_call 0 (by kernel_rfl) e ?_
  refine ok_go 0 ?_
  exact sy_done 0 (v := undef) (h := h') (by kernel_rfl) hy
/-- Nothing is to be sorted. -/
theorem sort_nil (k : Nat) (h : Hp) : ∃ v, Ev 100000 (k + 20) 92 [.slice none 0 0] h = some (v, h) := ⟨undef, by kernel_rfl⟩
end Go.Proofs.Ytnfboopfpkaeaaa
/- SeesL: contracts of functions. -/
namespace Go.Proofs.Ytnfboopfpkaeaaa
open Go Go.Eng Nim
set_option maxRecDepth 100000
set_option maxHeartbeats 4000000
theorem gn (h : Hp) (o : AObj) (j : Nat) : (h.new o).get j = if j = h.next then some o else h.get j := by
  split
  · rename_i e; rw [e]; exact get_new h o
  · rename_i e; exact Hp.get_new_ne e
theorem gp (h : Hp) (i : Nat) (o : AObj) (j : Nat) : (h.put i o).get j = if j = i then some o else h.get j := by
  split
  · rename_i e; rw [e]; exact get_put h i o
  · rename_i e; exact Hp.get_put_ne e
theorem nn (h : Hp) (o : AObj) : (h.new o).next = h.next + 1 := rfl
theorem np (h : Hp) (i : Nat) (o : AObj) : (h.put i o).next = h.next := rfl
/-- A mask without another one. -/
abbrev notI (a b : Int) : Int := IntKind.wrap .i64 ((BitVec.ofInt 64 a &&& ~~~BitVec.ofInt 64 b).toNat : Int)
noncomputable def notB (a b : Nat) : Bool := (Nat.beq (b &&& a) b).not || decide (notI (Int.ofNat a) (Int.ofNat b) = Int.ofNat (a ^^^ b))
theorem not_all : allB 64 (fun a => allB 64 fun b => notB a b) = true := by kernel_rfl
theorem not_nat {a b : Nat} (ha : a < 64) (hb : b < 64) (h : b &&& a = b) : notI (Int.ofNat a) (Int.ofNat b) = Int.ofNat (a ^^^ b) := by
  have := allB_ok (allB_ok not_all a ha) b hb
  unfold notB at this
  rw [h, Nat.beq_refl, Bool.not_true, Bool.false_or] at this
  exact of_decide_eq_true this
/-- The least bit of a mask. -/
def lo (m : Nat) : Nat := (andI (Int.ofNat m) (IntKind.i64.wrap (0 - Int.ofNat m))).toNat
noncomputable def loB (m : Nat) : Bool := Nat.beq m 0 || (decide (andI (Int.ofNat m) (IntKind.i64.wrap (0 - Int.ofNat m)) = Int.ofNat (lo m)) && Nat.blt 0 (lo m) && Nat.beq (lo m &&& m) (lo m) && allB 64 fun k => (Nat.beq (k &&& m) k).not || (Nat.beq (k &&& lo m) 0).not || (Nat.beq (lo (m ^^^ k)) (lo m) && Nat.beq (lo m &&& (m ^^^ k)) (lo m)))
theorem lo_all : allB 64 loB = true := by kernel_rfl
theorem lo_ok {m : Nat} (h0 : 0 < m) (hm : m < 64) : andI (Int.ofNat m) (IntKind.i64.wrap (0 - Int.ofNat m)) = Int.ofNat (lo m) ∧ 0 < lo m ∧ lo m &&& m = lo m ∧ lo m ≤ m ∧ ∀ k, k < 64 → k &&& m = k → k &&& lo m = 0 → lo (m ^^^ k) = lo m ∧ lo m &&& (m ^^^ k) = lo m := by
  have h := allB_ok lo_all m hm
  unfold loB at h
  rw [Bool.or_eq_true] at h
  rcases h with h | h
  · have := Nat.eq_of_beq_eq_true h; omega
  · simp only [Bool.and_eq_true] at h
    obtain ⟨⟨⟨h1, h2⟩, h3⟩, h4⟩ := h
    have h3 := Nat.eq_of_beq_eq_true h3
    refine ⟨of_decide_eq_true h1, Nat.le_of_ble_eq_true h2, h3, by rw [← h3]; exact Nat.and_le_right, fun k hk hs h0 => ?_⟩
    have := allB_ok h4 k hk
    rw [hs, h0, Nat.beq_refl, Nat.beq_refl] at this
    simp only [Bool.not_true, Bool.false_or, Bool.and_eq_true] at this
    exact ⟨Nat.eq_of_beq_eq_true this.1, Nat.eq_of_beq_eq_true this.2⟩
/-- The best at m among the masks up to s: how many, and the one. -/
def pst (f : Nat → Bool) (x : Nat) (P : Nat → Int) (m : Nat) : Nat → Int × Int
  | 0 => (P (m ^^^ lo m), 0)
  | s + 1 => if (sub (s + 1) m && ((s + 1) &&& lo m != 0) && (f (x ^^^ (s + 1)) != f x) && decide (P (m ^^^ (s + 1)) + 1 > (pst f x P m s).1)) = true then (P (m ^^^ (s + 1)) + 1, Int.ofNat (s + 1)) else pst f x P m s
theorem pst_skip (f : Nat → Bool) (x : Nat) (P : Nat → Int) (m s : Nat) : ∀ t, s ≤ t → (∀ v, s < v → v ≤ t → sub v m = false) → pst f x P m t = pst f x P m s
  | 0, h, _ => by rw [show s = 0 by omega]
  | t + 1, h, hv => by
    by_cases e : s = t + 1
    · rw [e]
    · rw [pst, hv (t + 1) (by omega) (Nat.le_refl _)]
      exact pst_skip f x P m s t (by omega) fun v h1 h2 => hv v h1 (by omega)
/-- The two tables when the masks below m are done. -/
def pt (f : Nat → Bool) (x : Nat) : Nat → (Nat → Int) × (Nat → Int)
  | 0 => (fun _ => 0, fun _ => 0)
  | m + 1 => if m = 0 then (fun _ => 0, fun _ => 0) else (fun y => if y = m then (pst f x (pt f x m).1 m m).1 else (pt f x m).1 y, fun y => if y = m then (pst f x (pt f x m).1 m m).2 else (pt f x m).2 y)
theorem sub_nat {k m : Nat} (h : sub k m = true) : k &&& m = k := eq_of_beq h
theorem pst_ok (f : Nat → Bool) (x : Nat) (P : Nat → Int) (m : Nat) (hm : m < 64) (h0 : 0 < m) (hP : ∀ y, y < m → 0 ≤ P y ∧ P y ≤ y) : ∀ s, s ≤ m → (0 ≤ (pst f x P m s).1 ∧ (pst f x P m s).1 ≤ m) ∧
    (((pst f x P m s).2 = 0 ∧ (pst f x P m s).1 = P (m ^^^ lo m)) ∨ ∃ k, 0 < k ∧ k ≤ m ∧ k &&& m = k ∧ f (x ^^^ k) ≠ f x ∧ k &&& lo m ≠ 0 ∧ (pst f x P m s).2 = Int.ofNat k ∧ (pst f x P m s).1 = P (m ^^^ k) + 1)
  | 0, _ => by
    obtain ⟨-, hl0, hlm, hll, -⟩ := lo_ok h0 hm
    have h1 := xlt hm (by omega) hl0 hlm
    have h2 := hP _ h1
    refine ⟨⟨h2.1, ?_⟩, .inl ⟨rfl, rfl⟩⟩
    show P (m ^^^ lo m) ≤ m
    omega
  | s + 1, hs => by
    have ih := pst_ok f x P m hm h0 hP s (by omega)
    unfold pst
    split
    · rename_i hc
      simp only [Bool.and_eq_true, bne_iff_ne, ne_eq] at hc
      obtain ⟨⟨⟨c1, c2⟩, c3⟩, -⟩ := hc
      have h1 := xlt hm (by omega) (by omega) (sub_nat c1)
      have h2 := hP _ h1
      exact ⟨⟨by show 0 ≤ P (m ^^^ (s + 1)) + 1; omega, by show P (m ^^^ (s + 1)) + 1 ≤ m; omega⟩, .inr ⟨s + 1, by omega, hs, sub_nat c1, c3, c2, rfl, rfl⟩⟩
    · exact ih
theorem pt_le (f : Nat → Bool) (x : Nat) : ∀ m, m ≤ 64 → ∀ y, 0 ≤ (pt f x m).1 y ∧ (pt f x m).1 y ≤ y
  | 0, _, y => ⟨Int.le_refl _, Int.natCast_nonneg y⟩
  | m + 1, hm, y => by
    have ih := pt_le f x m (by omega)
    unfold pt
    split
    · exact ⟨Int.le_refl _, Int.natCast_nonneg y⟩
    · show 0 ≤ (if y = m then _ else _) ∧ (if y = m then _ else _) ≤ (y : Int)
      split
      · rename_i e
        rw [e]
        exact (pst_ok f x _ m (by omega) (by omega) (fun y _ => ih y) m (Nat.le_refl _)).1
      · exact ih y
theorem pt_tk (f : Nat → Bool) (x : Nat) : ∀ m, m ≤ 64 → ∀ y, (pt f x m).2 y = 0 ∨ ∃ k, 0 < k ∧ k ≤ y ∧ k &&& y = k ∧ (pt f x m).2 y = Int.ofNat k
  | 0, _, y => .inl rfl
  | m + 1, hm, y => by
    have ih := pt_tk f x m (by omega)
    unfold pt
    split
    · exact .inl rfl
    · show (if y = m then _ else _) = 0 ∨ ∃ k, 0 < k ∧ k ≤ y ∧ k &&& y = k ∧ (if y = m then _ else _) = Int.ofNat k
      split
      · rename_i e
        subst e
        rcases (pst_ok f x (pt f x y).1 y (by omega) (by omega) (fun z _ => pt_le f x y (by omega) z) y (Nat.le_refl _)).2 with h | ⟨k, h1, h2, h3, -, -, h6, -⟩
        · exact .inl h.1
        · exact .inr ⟨k, h1, h2, h3, h6⟩
      · exact ih y
noncomputable def popB (m k : Nat) : Bool := (Nat.beq (k &&& m) k).not || Nat.beq k 0 || Nat.blt (pop (m ^^^ k)) (pop m)
theorem pop_all : allB 64 (fun m => Nat.ble (pop m) 6 && allB 64 fun k => popB m k) = true := by kernel_rfl
theorem pop_lt {m k : Nat} (hm : m < 64) (hk : k < 64) (h0 : 0 < k) (hs : k &&& m = k) : pop (m ^^^ k) < pop m := by
  have h := allB_ok pop_all m hm
  rw [Bool.and_eq_true] at h
  have h := allB_ok h.2 k hk
  unfold popB at h
  rw [hs, Nat.beq_refl, Bool.not_true, Bool.false_or, Bool.or_eq_true] at h
  rcases h with h | h
  · have := Nat.eq_of_beq_eq_true h; omega
  · exact Nat.le_of_ble_eq_true h
theorem pop_six {m : Nat} (hm : m < 64) : pop m ≤ 6 := by
  have h := allB_ok pop_all m hm
  rw [Bool.and_eq_true] at h
  exact Nat.le_of_ble_eq_true h.1
/-- The blocks that are taken from a mask. -/
def tk (T : Nat → Int) : Nat → Nat → List Int
  | 0, _ => []
  | k + 1, m => if m = 0 then [] else if 0 < T m then T m :: tk T k (m ^^^ (T m).toNat) else tk T k (m ^^^ lo m)
theorem blocks_of (f : Nat → Bool) (n : Nat) (hn : n ≤ 6) (lf m0 : Nat) (hlf : 300 ≤ lf) (b0 c x : Nat) (hx : x < 2 ^ n) (h : Hp) (A : ArB b0 (2 ^ n) f h)
    (so : ∀ b n c (zs : List Int) h, n ≤ 12 → zs.length = n → LiI b zs h → Sorts lf (m0 + 2) 92 n c [] b zs h) (sn : ∀ h, ∃ v, Ev lf (m0 + 2) 92 [.slice none 0 0] h = some (v, h)) :
    ∃ v h', Ev lf (m0 + 3) 77 [.slice (some ⟨b0, 0, none⟩) (2 ^ n) c, J x] h = some (v, h') ∧ ∃ (ys : List Int) (a : Option Addr) (cc : Nat), ys.Perm (tk (pt f x (2 ^ n)).2 (2 ^ n) (2 ^ n - 1)) ∧ (∀ p q (hp : p < ys.length) (hq : q < ys.length), p < q → ys[p] ≤ ys[q]) ∧ v = .slice a ys.length cc ∧ Rds h' v (ys.map I) ∧ ys.length ≤ 6 ∧ h.Ext h' := by
  have hp64 : 2 ^ n ≤ 64 := Nat.pow_le_pow_right (n := 2) (by decide) hn
  have hp0 : 1 ≤ 2 ^ n := Nat.one_le_two_pow
  have hxs : ∀ s, s < 2 ^ n → x ^^^ s < 2 ^ n := fun s hs => xor_small hx hs
  refine fnS_ok (Q := fun v h' => ∃ (ys : List Int) (a : Option Addr) (cc : Nat), ys.Perm (tk (pt f x (2 ^ n)).2 (2 ^ n) (2 ^ n - 1)) ∧ (∀ p q (hp : p < ys.length) (hq : q < ys.length), p < q → ys[p] ≤ ys[q]) ∧ v = .slice a ys.length cc ∧ Rds h' v (ys.map I) ∧ ys.length ≤ 6 ∧ h.Ext h') ?_
  generalize hN : 2 ^ n = N at *
  have hw1 : IntKind.i64.wrap (Int.ofNat N - 1) = Int.ofNat (N - 1) := by
    rw [show Int.ofNat N - 1 = Int.ofNat (N - 1) by simp; omega, wrap_nat (by omega)]
  let SL : Value := .slice (some ⟨b0, 0, none⟩) N c
  let H2 : Hp := (h.new (.cells [SL] 27 false)).new (.cells [J x] 3 false)
  let H5 : Hp := ((H2.new (.cells (cellsF 64 fun _ => I 0) 102 false)).new (.cells (cellsF 64 fun _ => I 0) 102 false)).new (.cells [I 0] 3 false)
  let H6 : Hp := H5.put (h.next + 4) (.cells [J 1] 3 false)
  have e2 : H2.get h.next = some (.cells [SL] 27 false) := by simp only [H2, gn, nn, if_true]; (repeat (first | rw [if_pos (by omega)] | rw [if_neg (by omega)]))
  have e5 : H5.get (h.next + 4) = some (.cells [I 0] 3 false) := by simp only [H5, H2, gn, nn, if_true]; (repeat (first | rw [if_pos (by omega)] | rw [if_neg (by omega)]))
  refine ok_go 2 ?_
  refine sy_load 0 (r := loadT Try.prog H2 27 (ptr h.next 0)) (h' := H2) (v := SL) (by kernel_rfl) (load1 (by kernel_rfl) e2 rfl) ?_
  refine ok_go 5 ?_
  refine sy_store 0 (r := storeT Try.prog H5 3 (ptr (h.next + 4) 0) (I 1)) (h' := H6) (by kernel_rfl) (store1 zI rfl e5 (show 0 < 1 by omega)) ?_
  have n6 : H6.next = h.next + 5 := rfl
  have o6 : ∀ j, j < h.next → H6.get j = h.get j := fun j hj => by
    simp only [H6, H5, H2, gn, gp, nn]
    repeat (first | rw [if_pos (by omega)] | rw [if_neg (by omega)])
  have f6 : H6.get h.next = some (.cells [SL] 27 false) := by simp only [H6, H5, H2, gn, gp, nn, if_true]; (repeat (first | rw [if_pos (by omega)] | rw [if_neg (by omega)]))
  have x6 : H6.get (h.next + 1) = some (.cells [J x] 3 false) := by simp only [H6, H5, H2, gn, gp, nn, if_true]; (repeat (first | rw [if_pos (by omega)] | rw [if_neg (by omega)]))
  have M6 : AgI (h.next + 2) (fun _ => 0) H6 := ⟨by omega, false, by simp only [H6, H5, H2, gn, gp, nn, if_true]; (repeat (first | rw [if_pos (by omega)] | rw [if_neg (by omega)]))⟩
  have T6 : AgI (h.next + 3) (fun _ => 0) H6 := ⟨by omega, false, by simp only [H6, H5, H2, gn, gp, nn, if_true]; (repeat (first | rw [if_pos (by omega)] | rw [if_neg (by omega)]))⟩
  have c6 : H6.get (h.next + 4) = some (.cells [J 1] 3 false) := by simp only [H6, gp, if_true]; (repeat (first | rw [if_pos (by omega)] | rw [if_neg (by omega)]))
  refine ok_go 0 ?_
  refine sy_loop 0 lf H6 (α := Nat × Nat × List Nat) (fun s => [(2, ptr h.next 0), (3, ptr (h.next + 1) 0), (5, J (N - 1)), (6, ptr (h.next + 2) 0), (7, ptr (h.next + 3) 0), (8, ptr s.2.1 0), (slotD, marksV s.2.2)])
    (fun s g => 1 ≤ s.1 ∧ s.1 ≤ N ∧ Exc [h.next + 2, h.next + 3, h.next + 4] H6 g ∧ AgI (h.next + 2) (pt f x s.1).1 g ∧ AgI (h.next + 3) (pt f x s.1).2 g ∧ (h.next + 4 ≤ s.2.1 ∧ s.2.1 < g.next ∧ g.get s.2.1 = some (.cells [J s.1] 3 false)) ∧ s.2.2.Nodup ∧ ∀ d ∈ s.2.2, H6.next ≤ d ∧ d < g.next ∧ d ≠ s.2.1 ∧ g.get d = some (.defd false)) (fun s _ => N - s.1) (1, h.next + 4, []) (by kernel_rfl) (by kernel_rfl)
    ⟨by kernel_rfl, by kernel_rfl, (by kernel_rfl : _ = Value.int .i64 (IntKind.i64.wrap (Int.ofNat N - 1))).trans (by rw [hw1]), by kernel_rfl, by kernel_rfl, by kernel_rfl, by kernel_rfl, trivial⟩ (show N - 1 < lf by omega)
    ⟨Nat.le_refl _, hp0, ⟨Nat.le_refl _, fun _ _ _ => rfl⟩, M6, T6, ⟨Nat.le_refl _, by show h.next + 4 < h.next + 5; omega, c6⟩, List.nodup_nil, fun d hd => (by cases hd)⟩ ?_
  rintro m1 ⟨m, c8, ds⟩ f1 g ⟨hm1, hmN, X, M, T, ⟨hc1, hc2, hc3⟩, nd, hds⟩ ih
  dsimp only at hm1 hmN M T hc1 hc2 hc3 nd hds
  have XN := X.next
  refine ok_go 0 ?_
  refine sy_load 0 (r := loadT Try.prog g 3 (ptr c8 0)) (h' := g) (v := J m) (by kernel_rfl) (load1 agI hc3 rfl) ?_
  refine ok_go 1 ?_
  refine sy_test 0 (decide (Int.ofNat m ≤ Int.ofNat (N - 1))) (by kernel_rfl) ?_ ?_
  · intro hlt
    have hlt : m < N := by have := of_decide_eq_true hlt; simp at this; omega
    have hm64 : m < 64 := by omega
    obtain ⟨hlo, hl0, hlm, hll, -⟩ := lo_ok hm1 hm64
    refine ok_go 0 ?_
    refine sy_load 0 (r := loadT Try.prog g 3 (ptr c8 0)) (h' := g) (v := J m) (by kernel_rfl) (load1 agI hc3 rfl) ?_
    refine ok_go 0 ?_
    refine sy_load 0 (r := loadT Try.prog g 3 (ptr c8 0)) (h' := g) (v := J m) (by kernel_rfl) (load1 agI hc3 rfl) ?_
    let g1 : Hp := g.new (.cells [I 0] 3 false)
    let g2 : Hp := g1.put g.next (.cells [J (lo m)] 3 false)
    have k1 : g1.get g.next = some (.cells [I 0] 3 false) := get_new _ _
    refine ok_go 3 ?_
    refine sy_store 0 (r := storeT Try.prog g1 3 (ptr g.next 0) (.int .i64 (andI (Int.ofNat m) (IntKind.i64.wrap (0 - Int.ofNat m))))) (h' := g2) (by kernel_rfl) (by rw [hlo]; exact store1 zI rfl k1 (show 0 < 1 by omega)) ?_
    have o2 : ∀ j, j < g.next → g2.get j = g.get j := fun j hj => by
      simp only [g2, g1, gn, gp]
      repeat (first | rw [if_pos (by omega)] | rw [if_neg (by omega)])
    have k2 : g2.get g.next = some (.cells [J (lo m)] 3 false) := get_put _ _ _
    have n2 : g2.next = g.next + 1 := rfl
    have c2 : g2.get c8 = some (.cells [J m] 3 false) := (o2 _ hc2).trans hc3
    have M2 : AgI (h.next + 2) (pt f x m).1 g2 := M.of (by omega) (o2 _ (by omega))
    have T2 : AgI (h.next + 3) (pt f x m).2 g2 := T.of (by omega) (o2 _ (by omega))
    refine ok_go 0 ?_
    refine sy_load 0 (r := loadT Try.prog g2 3 (ptr c8 0)) (h' := g2) (v := J m) (by kernel_rfl) (load1 agI c2 rfl) ?_
    refine ok_go 0 ?_
    refine sy_load 0 (r := loadT Try.prog g2 3 (ptr c8 0)) (h' := g2) (v := J m) (by kernel_rfl) (load1 agI c2 rfl) ?_
    refine ok_go 0 ?_
    refine sy_load 0 (r := loadT Try.prog g2 3 (ptr c8 0)) (h' := g2) (v := J m) (by kernel_rfl) (load1 agI c2 rfl) ?_
    refine ok_go 0 ?_
    refine sy_load 0 (r := loadT Try.prog g2 3 (ptr g.next 0)) (h' := g2) (v := J (lo m)) (by kernel_rfl) (load1 agI k2 rfl) ?_
    have hml : m ^^^ lo m < m := xlt hm64 (by omega) hl0 hlm
    have hno := not_nat hm64 (by omega) hlm
    have rd := M2.read (x := m ^^^ lo m) (by omega)
    obtain ⟨g3, e3, M3, n3, o3⟩ := M2.store (x := m) hm64 ((pt f x m).1 (m ^^^ lo m))
    obtain ⟨g4, e4, T4, n4, o4⟩ := (T2.of (g := g3) (by omega) (o3 _ (by omega))).store (x := m) hm64 0
    refine ok_go 1 ?_
    refine sy_load 0 (r := indexAddrOp Try.prog 102 (ptr (h.next + 2) 0) (.int .i64 (notI (Int.ofNat m) (Int.ofNat (lo m))))) (h' := g2) (by kernel_rfl) (by rw [hno]; exact idx102 (by omega)) ?_
    refine ok_go 0 ?_
    refine sy_load 0 (r := loadT Try.prog g2 3 (ptr (h.next + 2) (m ^^^ lo m))) (h' := g2) (by kernel_rfl) rd ?_
    refine ok_go 0 ?_
    refine sy_load 0 (r := indexAddrOp Try.prog 102 (ptr (h.next + 2) 0) (J m)) (h' := g2) (by kernel_rfl) (idx102 hm64) ?_
    refine ok_go 0 ?_
    refine sy_store 0 (r := storeT Try.prog g2 3 (ptr (h.next + 2) m) (I ((pt f x m).1 (m ^^^ lo m)))) (h' := g3) (by kernel_rfl) e3 ?_
    refine ok_go 0 ?_
    refine sy_load 0 (r := indexAddrOp Try.prog 102 (ptr (h.next + 3) 0) (J m)) (h' := g3) (by kernel_rfl) (idx102 hm64) ?_
    refine ok_go 0 ?_
    refine sy_store 0 (r := storeT Try.prog g3 3 (ptr (h.next + 3) m) (I 0)) (h' := g4) (by kernel_rfl) e4 ?_
    have M4 := M3.of (g := g4) (by omega) (o4 _ (by omega))
    have n4' : g4.next = g.next + 1 := by rw [n4, n3, n2]
    have o4' : ∀ j, j ≠ h.next + 2 → j ≠ h.next + 3 → g4.get j = g2.get j := fun j h1 h2 => (o4 j h2).trans (o3 j h1)
    have c4 : g4.get c8 = some (.cells [J m] 3 false) := (o4' _ (by omega) (by omega)).trans c2
    have k4 : g4.get g.next = some (.cells [J (lo m)] 3 false) := (o4' _ (by omega) (by omega)).trans k2
    refine ok_go 0 ?_
    have c3 : g3.get c8 = some (.cells [J m] 3 false) := (o3 _ (by omega)).trans c2
    refine sy_need 0 [] [⟨(loadT Try.prog g3 3 (ptr c8 0)).map (·, g3), J m, g3⟩] (by kernel_rfl) ⟨by show (loadT Try.prog g3 3 (ptr c8 0)).map (·, g3) = some (J m, g3); rw [load1 (v := J m) agI c3 rfl]; rfl, trivial⟩ ?_
    refine ok_go 0 ?_
    refine sy_load 0 (r := loadT Try.prog g4 3 (ptr c8 0)) (h' := g4) (v := J m) (by kernel_rfl) (load1 agI c4 rfl) ?_
    let g5 : Hp := g4.new (.cells [J m] 3 false)
    have n5 : g5.next = g.next + 2 := by show g4.next + 1 = _; omega
    refine ok_go 1 ?_
    refine sy_range 0 (callF := evInv Try.prog orc lf (m0 + 2)) (P := Try.prog) (lf := lf) (m := 103) (rcOf Try.prog 77 0) g5 [(2, ptr h.next 0), (3, ptr (h.next + 1) 0), (6, ptr (h.next + 2) 0), (7, ptr (h.next + 3) 0), (8, ptr c8 0), (9, ptr g.next 0)] 103 [.func (.yield (g5.next + 1)) #[] #[], ptr g4.next 0]
      (by kernel_rfl) (fun F => by kernel_rfl) ⟨by kernel_rfl, by kernel_rfl, by kernel_rfl, by kernel_rfl, by kernel_rfl, by kernel_rfl, trivial⟩ (by kernel_rfl) (by kernel_rfl) fun F f2 hr => ?_
    let CC := rcOf Try.prog 77 0
    let HH : Hp := CC.heap F g5
    have nH : HH.next = g.next + 4 := by show g5.next + 1 + 1 = _; omega
    have oH4 : ∀ j, j < g.next + 1 → HH.get j = g4.get j := fun j hj => by
      simp only [HH, g5, RC.heap, gn, nn]
      repeat (first | rw [if_pos (by omega)] | rw [if_neg (by omega)])
    have HB : HH.get (g.next + 1) = some (.cells [J m] 3 false) := by
      simp only [HH, g5, RC.heap, gn, nn]
      repeat (first | rw [if_pos (by omega)] | rw [if_neg (by omega)])
    have HD : HH.get (g.next + 2) = some (.defd false) := by
      simp only [HH, g5, RC.heap, gn, nn]
      repeat (first | rw [if_pos (by omega)] | rw [if_neg (by omega)])
    have HL : HH.get (g.next + 3) = some (CC.obj F (g.next + 2) .ready none) := by
      have e : g5.next = g.next + 2 := n5
      simp only [HH, RC.heap, gn, nn, e, if_true]
      repeat (first | rw [if_pos (by omega)] | rw [if_neg (by omega)])
    rw [show g5.next + 1 = g.next + 3 by omega, show g4.next = g.next + 1 by omega]
    have oH : ∀ j, j < g.next → j ≠ h.next + 2 → j ≠ h.next + 3 → HH.get j = g.get j := fun j hj h1 h2 => by rw [oH4 j (by omega), o4' j h1 h2, o2 j hj]
    have Hk : HH.get g.next = some (.cells [J (lo m)] 3 false) := (oH4 _ (by omega)).trans k4
    have Hc : HH.get c8 = some (.cells [J m] 3 false) := (oH4 _ (by omega)).trans c4
    have Hf : HH.get h.next = some (.cells [SL] 27 false) := by rw [oH _ (by omega) (by omega) (by omega), X.get _ (by omega) (by simp)]; exact f6
    have Hx : HH.get (h.next + 1) = some (.cells [J x] 3 false) := by rw [oH _ (by omega) (by omega) (by omega), X.get _ (by omega) (by simp)]; exact x6
    have HA : ArB b0 N f HH := by
      obtain ⟨o, e⟩ := A.get
      have hb0 := A.lt
      exact ⟨by omega, o, by rw [oH _ (by omega) (by omega) (by omega), X.get _ (by omega) (by simp; omega), o6 _ hb0]; exact e⟩
    let P := (pt f x m).1
    let T0 := (pt f x m).2
    let Inv : Nat → Hp → Prop := fun s q => Exc [h.next + 2, h.next + 3, g.next + 3] HH q ∧ AgI (h.next + 2) (fun y => if y = m then (pst f x P m s).1 else P y) q ∧ AgI (h.next + 3) (fun y => if y = m then (pst f x P m s).2 else T0 y) q ∧ q.get (g.next + 3) = some (CC.obj F (g.next + 2) .ready none)
    have hb : ∀ s q, Inv s q → loadT Try.prog q 3 (ptr (g.next + 1) 0) = some (J m) := fun s q hq =>
      load1 agI (by rw [hq.1.get _ (by omega) (by simp; omega)]; exact HB) rfl
    have hy : ∀ s t q, s < t → t ≤ m → t &&& m = t → (∀ v, s < v → v < t → v &&& m ≠ v) → Inv s q → ∃ g', evInv Try.prog orc lf (m0 + 1) (.yield (g.next + 3) [J t]) q = some (.bool true, g') ∧ Inv t g' := fun s t q hst htm htt hno hq => by
      obtain ⟨Xq, Mq, Tq, Lq⟩ := hq
      have key : ∃ v g', evInv Try.prog orc lf (m0 + 1) (.yield (g.next + 3) [J t]) q = some (v, g') ∧ (v = .bool true ∧ Inv t g') := by
        refine yld_ok (c := CC) (Q := fun v g' => v = .bool true ∧ Inv t g') hr Lq (by kernel_rfl) ?_
        refine ok_go 0 ?_
        refine sy_busy 0 (by kernel_rfl) Lq ?_
        have Q' : ∀ j, j ≠ g.next + 3 → (q.put (g.next + 3) (CC.obj F (g.next + 2) .busy none)).get j = q.get j := fun j hj => Hp.get_put_ne hj
        generalize hq' : q.put (g.next + 3) (CC.obj F (g.next + 2) .busy none) = q' at Q' ⊢
        have Lq' : q'.get (g.next + 3) = some (CC.obj F (g.next + 2) .busy none) := by rw [← hq']; exact get_put _ _ _
        have nq' : q'.next = q.next := by rw [← hq']; rfl
        have nq := Xq.next
        have Xq' : ∀ j, j < g.next + 3 → j ≠ h.next + 2 → j ≠ h.next + 3 → q'.get j = HH.get j := fun j hj h1 h2 => by
          rw [Q' j (by omega)]; exact Xq.get j (by omega) (by simp; omega)
        have Mq' := Mq.of (g := q') (by omega) (Q' _ (by omega))
        have Tq' := Tq.of (g := q') (by omega) (Q' _ (by omega))
        have hsub : sub t m = true := by show (t &&& m == t) = true; rw [htt]; exact beq_self_eq_true t
        obtain ⟨t', rfl⟩ : ∃ t', t = t' + 1 := ⟨t - 1, by omega⟩
        have hpre : pst f x P m t' = pst f x P m s := pst_skip f x P m s t' (by omega) fun v h1 h2 => by
          cases hs : sub v m with
          | false => rfl
          | true => exact absurd (sub_nat hs) (hno v h1 (by omega))
        have hpst : pst f x P m (t' + 1) = if (sub (t' + 1) m && ((t' + 1) &&& lo m != 0) && (f (x ^^^ (t' + 1)) != f x) && decide (P (m ^^^ (t' + 1)) + 1 > (pst f x P m s).1)) = true then (P (m ^^^ (t' + 1)) + 1, Int.ofNat (t' + 1)) else pst f x P m s := by
          rw [pst, hpre]
        generalize t' + 1 = t at *
        have rk : q'.get g.next = some (.cells [J (lo m)] 3 false) := (Xq' _ (by omega) (by omega) (by omega)).trans Hk
        have rc : q'.get c8 = some (.cells [J m] 3 false) := (Xq' _ (by omega) (by omega) (by omega)).trans Hc
        have rf : q'.get h.next = some (.cells [SL] 27 false) := (Xq' _ (by omega) (by omega) (by omega)).trans Hf
        have rx : q'.get (h.next + 1) = some (.cells [J x] 3 false) := (Xq' _ (by omega) (by omega) (by omega)).trans Hx
        have rA : ArB b0 N f q' := by
          obtain ⟨o, e⟩ := HA.get
          have hb0 := A.lt
          exact ⟨by omega, o, by rw [Xq' _ (by omega) (by omega) (by omega)]; exact e⟩
        have hxt := hxs t (by omega)
        have hxor : xorI (Int.ofNat x) (Int.ofNat t) = Int.ofNat (x ^^^ t) := xor_nat (by omega) (by omega)
        have hmt : m ^^^ t < m := xlt hm64 (by omega) (by omega) htt
        have hno' := not_nat hm64 (by omega) htt
        have hand : (andI (Int.ofNat t) (Int.ofNat (lo m)) != 0) = (t &&& lo m != 0) := by rw [and_nat (by omega)]; exact ne_int _ 0
        have hPb := pt_le f x m (by omega) (m ^^^ t)
        have hcur := (pst_ok f x P m hm64 hm1 (fun y _ => pt_le f x m (by omega) y) s (by omega)).1
        have rm := Mq'.read (x := m) hm64
        rw [if_pos rfl] at rm
        have rmt := Mq'.read (x := m ^^^ t) (by omega)
        rw [if_neg (by omega)] at rmt
        have hw2 : IntKind.i64.wrap (P (m ^^^ t) + 1) = P (m ^^^ t) + 1 := wrap_int (by show -(2 ^ 63) ≤ (pt f x m).1 (m ^^^ t) + 1; omega) (by show (pt f x m).1 (m ^^^ t) + 1 < 2 ^ 63; omega)
        refine ok_go 0 ?_
        refine sy_load 0 (r := loadT Try.prog q' 3 (ptr g.next 0)) (h' := q') (v := J (lo m)) (by kernel_rfl) (load1 agI rk rfl) ?_
        refine ok_go 2 ?_
        refine sy_test 0 (andI (Int.ofNat t) (Int.ofNat (lo m)) != 0) (by kernel_rfl) ?_ ?_
        · intro h1
          rw [hand] at h1
          refine ok_go 0 ?_
          refine sy_load 0 (r := loadT Try.prog q' 27 (ptr h.next 0)) (h' := q') (v := SL) (by kernel_rfl) (load1 (by kernel_rfl) rf rfl) ?_
          refine ok_go 1 ?_
          refine sy_load 0 (r := loadT Try.prog q' 3 (ptr (h.next + 1) 0)) (h' := q') (v := J x) (by kernel_rfl) (load1 agI rx rfl) ?_
          refine ok_go 4 ?_
          refine sy_load 0 (r := indexAddrOp Try.prog 27 SL (.int .i64 (xorI (Int.ofNat x) (Int.ofNat t)))) (h' := q') (by kernel_rfl) (by rw [hxor]; exact idxB hxt) ?_
          refine ok_go 1 ?_
          refine sy_load 0 (r := loadT Try.prog q' 4 (ptr b0 (x ^^^ t))) (h' := q') (by kernel_rfl) (rA.read hxt) ?_
          refine ok_go 1 ?_
          refine sy_load 0 (r := loadT Try.prog q' 27 (ptr h.next 0)) (h' := q') (v := SL) (by kernel_rfl) (load1 (by kernel_rfl) rf rfl) ?_
          refine ok_go 1 ?_
          refine sy_load 0 (r := loadT Try.prog q' 3 (ptr (h.next + 1) 0)) (h' := q') (v := J x) (by kernel_rfl) (load1 agI rx rfl) ?_
          refine ok_go 1 ?_
          refine sy_load 0 (r := indexAddrOp Try.prog 27 SL (J x)) (h' := q') (by kernel_rfl) (idxB hx) ?_
          refine ok_go 1 ?_
          refine sy_load 0 (r := loadT Try.prog q' 4 (ptr b0 x)) (h' := q') (by kernel_rfl) (rA.read hx) ?_
          refine ok_go 3 ?_
          refine sy_test 0 (f (x ^^^ t) != f x) (by kernel_rfl) ?_ ?_
          · intro h2
            refine ok_go 0 ?_
            refine sy_load 0 (r := loadT Try.prog q' 3 (ptr c8 0)) (h' := q') (v := J m) (by kernel_rfl) (load1 agI rc rfl) ?_
            refine ok_go 4 ?_
            refine sy_load 0 (r := indexAddrOp Try.prog 102 (ptr (h.next + 2) 0) (.int .i64 (notI (Int.ofNat m) (Int.ofNat t)))) (h' := q') (by kernel_rfl) (by rw [hno']; exact idx102 (by omega)) ?_
            refine ok_go 1 ?_
            refine sy_load 0 (r := loadT Try.prog q' 3 (ptr (h.next + 2) (m ^^^ t))) (h' := q') (by kernel_rfl) rmt ?_
            refine ok_go 3 ?_
            refine sy_load 0 (r := loadT Try.prog q' 3 (ptr c8 0)) (h' := q') (v := J m) (by kernel_rfl) (load1 agI rc rfl) ?_
            refine ok_go 1 ?_
            refine sy_load 0 (r := indexAddrOp Try.prog 102 (ptr (h.next + 2) 0) (J m)) (h' := q') (by kernel_rfl) (idx102 hm64) ?_
            refine ok_go 1 ?_
            refine sy_load 0 (r := loadT Try.prog q' 3 (ptr (h.next + 2) m)) (h' := q') (by kernel_rfl) rm ?_
            refine ok_go 3 ?_
            refine sy_test 0 (decide (IntKind.i64.wrap (P (m ^^^ t) + 1) > (pst f x P m s).1)) (by kernel_rfl) ?_ ?_
            · intro h3
              rw [hw2] at h3
              have hnew : pst f x P m t = (P (m ^^^ t) + 1, Int.ofNat t) := by rw [hpst, if_pos (by rw [hsub, h1, h2, h3]; rfl)]
              refine ok_go 0 ?_
              refine sy_load 0 (r := loadT Try.prog q' 3 (ptr c8 0)) (h' := q') (v := J m) (by kernel_rfl) (load1 agI rc rfl) ?_
              refine ok_go 0 ?_
              refine sy_load 0 (r := loadT Try.prog q' 3 (ptr c8 0)) (h' := q') (v := J m) (by kernel_rfl) (load1 agI rc rfl) ?_
              refine ok_go 0 ?_
              refine sy_load 0 (r := loadT Try.prog q' 3 (ptr c8 0)) (h' := q') (v := J m) (by kernel_rfl) (load1 agI rc rfl) ?_
              refine ok_go 1 ?_
              refine sy_load 0 (r := indexAddrOp Try.prog 102 (ptr (h.next + 2) 0) (.int .i64 (notI (Int.ofNat m) (Int.ofNat t)))) (h' := q') (by kernel_rfl) (by rw [hno']; exact idx102 (by omega)) ?_
              refine ok_go 0 ?_
              refine sy_load 0 (r := loadT Try.prog q' 3 (ptr (h.next + 2) (m ^^^ t))) (h' := q') (by kernel_rfl) rmt ?_
              obtain ⟨q3, s3, M5, m3, p3⟩ := Mq'.store (x := m) hm64 (P (m ^^^ t) + 1)
              obtain ⟨q4, s4, T5, m4, p4⟩ := (Tq'.of (g := q3) (by omega) (p3 _ (by omega))).store (x := m) hm64 (Int.ofNat t)
              have rc3 : q3.get c8 = some (.cells [J m] 3 false) := (p3 _ (by omega)).trans rc
              refine ok_go 1 ?_
              refine sy_load 0 (r := indexAddrOp Try.prog 102 (ptr (h.next + 2) 0) (J m)) (h' := q') (by kernel_rfl) (idx102 hm64) ?_
              refine ok_go 0 ?_
              refine sy_store 0 (r := storeT Try.prog q' 3 (ptr (h.next + 2) m) (I (IntKind.i64.wrap (P (m ^^^ t) + 1)))) (h' := q3) (by kernel_rfl) (by rw [hw2]; exact s3) ?_
              refine ok_go 0 ?_
              refine sy_load 0 (r := indexAddrOp Try.prog 102 (ptr (h.next + 3) 0) (J m)) (h' := q3) (by kernel_rfl) (idx102 hm64) ?_
              refine ok_go 0 ?_
              refine sy_store 0 (r := storeT Try.prog q3 3 (ptr (h.next + 3) m) (J t)) (h' := q4) (by kernel_rfl) s4 ?_
              refine ok_go 0 ?_
              refine sy_need 0 [] [⟨(loadT Try.prog q3 3 (ptr c8 0)).map (·, q3), J m, q3⟩] (by kernel_rfl) ⟨by show (loadT Try.prog q3 3 (ptr c8 0)).map (·, q3) = some (J m, q3); rw [load1 (v := J m) agI rc3 rfl]; rfl, trivial⟩ ?_
              have L4 : q4.get (g.next + 3) = some (CC.obj F (g.next + 2) .busy none) := by rw [p4 _ (by omega), p3 _ (by omega)]; exact Lq'
              refine ok_go 0 ?_
              refine sy_round 0 (by kernel_rfl) L4 ?_
              refine ok_go 0 ?_
              refine sy_done 0 (v := .bool true) (h := q4.put (g.next + 3) (CC.obj F (g.next + 2) .ready none)) (by kernel_rfl) ⟨rfl, ⟨by show _ ≤ q4.next; omega, fun j hj hm' => ?_⟩, ?_, ?_, get_put _ _ _⟩
              · have hm'' : j ≠ h.next + 2 ∧ j ≠ h.next + 3 ∧ j ≠ g.next + 3 := by simpa using hm'
                rw [Hp.get_put_ne hm''.2.2, p4 _ hm''.2.1, p3 _ hm''.1, Xq' j (by omega) hm''.1 hm''.2.1]
              · show AgI (h.next + 2) (fun y => if y = m then (pst f x P m t).1 else P y) _
                rw [hnew]
                refine (M5.of (g := q4.put (g.next + 3) (CC.obj F (g.next + 2) .ready none)) (by show _ ≤ q4.next; omega) ((Hp.get_put_ne (by omega)).trans (p4 _ (by omega)))).congr fun y _ => ?_
                split <;> rfl
              · show AgI (h.next + 3) (fun y => if y = m then (pst f x P m t).2 else T0 y) _
                rw [hnew]
                refine (T5.of (g := q4.put (g.next + 3) (CC.obj F (g.next + 2) .ready none)) (Nat.le_refl _) (Hp.get_put_ne (by omega))).congr fun y _ => ?_
                split <;> rfl
            · intro h3
              rw [hw2] at h3
              have hsame : pst f x P m t = pst f x P m s := by rw [hpst, if_neg (by rw [h3, Bool.and_false]; decide)]
              have L2 := Lq'
              refine ok_go 0 ?_
              refine sy_round 0 (by kernel_rfl) L2 ?_
              refine ok_go 0 ?_
              refine sy_done 0 (v := .bool true) (h := q'.put (g.next + 3) (CC.obj F (g.next + 2) .ready none)) (by kernel_rfl) ⟨rfl, ⟨by show _ ≤ q'.next; omega, fun j hj hm' => ?_⟩, ?_, ?_, get_put _ _ _⟩
              · have hm'' : j ≠ h.next + 2 ∧ j ≠ h.next + 3 ∧ j ≠ g.next + 3 := by simpa using hm'
                rw [Hp.get_put_ne hm''.2.2, Xq' j (by omega) hm''.1 hm''.2.1]
              · show AgI (h.next + 2) (fun y => if y = m then (pst f x P m t).1 else P y) _
                rw [hsame]; exact Mq'.of (Nat.le_refl _) (Hp.get_put_ne (by omega))
              · show AgI (h.next + 3) (fun y => if y = m then (pst f x P m t).2 else T0 y) _
                rw [hsame]; exact Tq'.of (Nat.le_refl _) (Hp.get_put_ne (by omega))
          · intro h2
            have hsame : pst f x P m t = pst f x P m s := by rw [hpst, if_neg (by rw [h2, Bool.and_false, Bool.false_and]; decide)]
            have L2 := Lq'
            refine ok_go 11 ?_
            refine sy_round 0 (by kernel_rfl) L2 ?_
            refine ok_go 0 ?_
            refine sy_done 0 (v := .bool true) (h := q'.put (g.next + 3) (CC.obj F (g.next + 2) .ready none)) (by kernel_rfl) ⟨rfl, ⟨by show _ ≤ q'.next; omega, fun j hj hm' => ?_⟩, ?_, ?_, get_put _ _ _⟩
            · have hm'' : j ≠ h.next + 2 ∧ j ≠ h.next + 3 ∧ j ≠ g.next + 3 := by simpa using hm'
              rw [Hp.get_put_ne hm''.2.2, Xq' j (by omega) hm''.1 hm''.2.1]
            · show AgI (h.next + 2) (fun y => if y = m then (pst f x P m t).1 else P y) _
              rw [hsame]; exact Mq'.of (Nat.le_refl _) (Hp.get_put_ne (by omega))
            · show AgI (h.next + 3) (fun y => if y = m then (pst f x P m t).2 else T0 y) _
              rw [hsame]; exact Tq'.of (Nat.le_refl _) (Hp.get_put_ne (by omega))
        · intro h1
          rw [hand] at h1
          have hsame : pst f x P m t = pst f x P m s := by rw [hpst, if_neg (by rw [h1, Bool.and_false, Bool.false_and, Bool.false_and]; decide)]
          have L2 := Lq'
          refine ok_go 23 ?_
          refine sy_round 0 (by kernel_rfl) L2 ?_
          refine ok_go 0 ?_
          refine sy_done 0 (v := .bool true) (h := q'.put (g.next + 3) (CC.obj F (g.next + 2) .ready none)) (by kernel_rfl) ⟨rfl, ⟨by show _ ≤ q'.next; omega, fun j hj hm' => ?_⟩, ?_, ?_, get_put _ _ _⟩
          · have hm'' : j ≠ h.next + 2 ∧ j ≠ h.next + 3 ∧ j ≠ g.next + 3 := by simpa using hm'
            rw [Hp.get_put_ne hm''.2.2, Xq' j (by omega) hm''.1 hm''.2.1]
          · show AgI (h.next + 2) (fun y => if y = m then (pst f x P m t).1 else P y) _
            rw [hsame]; exact Mq'.of (Nat.le_refl _) (Hp.get_put_ne (by omega))
          · show AgI (h.next + 3) (fun y => if y = m then (pst f x P m t).2 else T0 y) _
            rw [hsame]; exact Tq'.of (Nat.le_refl _) (Hp.get_put_ne (by omega))
      obtain ⟨v, g', e, rfl, hI⟩ := key
      exact ⟨g', e, hI⟩
    obtain ⟨v, h3, ev, hI⟩ := within_run lf (m0 + 1) (g.next + 1) (g.next + 3) m hm64 hlf Inv (fun _ => False) hb (fun s t q h1 h2 h3 h4 hq => .inl (hy s t q h1 h2 h3 h4 hq)) (h := HH)
      ⟨⟨Nat.le_refl _, fun _ _ _ => rfl⟩, M4.of (g := HH) (by omega) (oH4 _ (by omega)), T4.of (g := HH) (by omega) (oH4 _ (by omega)), HL⟩
    obtain ⟨X3, M3', T3', L3⟩ := hI.resolve_right id
    refine ⟨v, h3, .ready, none, g.next + 2, .normal, ev, L3, by decide, rfl, ?_⟩
    let h4 : Hp := h3.put (g.next + 3) (CC.obj F (g.next + 2) .exhausted none)
    have nx3 := X3.next
    have n4h : h4.next = h3.next := rfl
    have O4 : ∀ j, j < g.next + 3 → j ≠ h.next + 2 → j ≠ h.next + 3 → h4.get j = HH.get j := fun j hj h1 h2 => by
      show (h3.put _ _).get _ = _
      rw [Hp.get_put_ne (by omega), X3.get j (by omega) (by simp; omega)]
    let h5 : Hp := h4.new (.cells [I 0] 3 false)
    let h6 : Hp := h5.put h3.next (.cells [J m] 3 false)
    let h7 : Hp := h6.put h3.next (.cells [J (m + 1)] 3 false)
    have w4 : h4.get c8 = some (.cells [J m] 3 false) := (O4 _ (by omega) (by omega) (by omega)).trans Hc
    have w5 : h5.get h3.next = some (.cells [I 0] 3 false) := get_new h4 _
    have w6 : h6.get h3.next = some (.cells [J m] 3 false) := get_put _ _ _
    have w7 : h7.get h3.next = some (.cells [J (m + 1)] 3 false) := get_put _ _ _
    have O7 : ∀ j, j < h3.next → h7.get j = h4.get j := fun j hj => by
      simp only [h7, h6, h5, gn, gp]
      repeat (first | rw [if_pos (by omega)] | rw [if_neg (by omega)])
    have hwm : IntKind.wrap .i64 (Int.ofNat (m + 1)) = Int.ofNat (m + 1) := wrap_nat (by omega)
    refine ok_go 0 ?_
    refine sy_load 0 (r := loadT Try.prog h4 3 (ptr c8 0)) (h' := h4) (v := J m) (by kernel_rfl) (load1 agI w4 rfl) ?_
    refine ok_go 1 ?_
    refine sy_store 0 (r := storeT Try.prog h5 3 (ptr h3.next 0) (J m)) (h' := h6) (by kernel_rfl) (store1 zI rfl w5 (show 0 < 1 by omega)) ?_
    refine ok_go 0 ?_
    refine sy_load 0 (r := loadT Try.prog h6 3 (ptr h3.next 0)) (h' := h6) (v := J m) (by kernel_rfl) (load1 agI w6 rfl) ?_
    refine ok_go 1 ?_
    refine sy_store 0 (r := storeT Try.prog h6 3 (ptr h3.next 0) (.int .i64 (IntKind.wrap .i64 (Int.ofNat (m + 1))))) (h' := h7) (by kernel_rfl) (by rw [hwm]; exact store1 zI rfl w6 (show 0 < 1 by omega)) ?_
    refine ok_go 0 ?_
    have M7 : AgI (h.next + 2) (pt f x (m + 1)).1 h7 := by
      have e : (pt f x (m + 1)).1 = fun y => if y = m then (pst f x P m m).1 else P y := by
        rw [pt, if_neg (by omega)]
      rw [e]
      exact M3'.of (g := h7) (by show h3.next ≤ h3.next + 1; omega) (by rw [O7 _ (by omega)]; exact Hp.get_put_ne (by omega))
    have T7 : AgI (h.next + 3) (pt f x (m + 1)).2 h7 := by
      have e : (pt f x (m + 1)).2 = fun y => if y = m then (pst f x P m m).2 else T0 y := by
        rw [pt, if_neg (by omega)]
      rw [e]
      exact T3'.of (g := h7) (by show h3.next ≤ h3.next + 1; omega) (by rw [O7 _ (by omega)]; exact Hp.get_put_ne (by omega))
    exact sy_next 0 _ h7 (by kernel_rfl) (by kernel_rfl) (ih (m + 1, h3.next, (g.next + 2) :: ds) _ h7 ⟨by show 1 ≤ m + 1; omega, hlt, ⟨by show _ ≤ h3.next + 1; omega, fun j hj hm' => by
        have hm'' : j ≠ h.next + 2 ∧ j ≠ h.next + 3 ∧ j ≠ h.next + 4 := by simpa using hm'
        rw [O7 j (by omega), O4 j (by omega) hm''.1 hm''.2.1, oH j (by omega) hm''.1 hm''.2.1]
        exact X.get j hj hm'⟩, M7, T7, ⟨by show _ ≤ h3.next; omega, by show h3.next < h3.next + 1; omega, w7⟩, List.nodup_cons.2 ⟨fun hd => by have := (hds _ hd).2.1; omega, nd⟩, fun d hd => by
          rcases List.mem_cons.1 hd with rfl | hd
          · exact ⟨by omega, by show _ < h3.next + 1; omega, by show _ ≠ h3.next; omega, by rw [O7 _ (by omega), O4 _ (by omega) (by omega) (by omega)]; exact HD⟩
          · obtain ⟨d1, d2, d3, d4⟩ := hds d hd
            exact ⟨d1, by show d < h3.next + 1; omega, by show d ≠ h3.next; omega, by rw [O7 _ (by omega), O4 _ (by omega) (by omega) (by omega), oH _ d2 (by omega) (by omega)]; exact d4⟩⟩ (show N - (m + 1) < N - m by omega)
      ⟨by kernel_rfl, by kernel_rfl, by kernel_rfl, by kernel_rfl, by kernel_rfl, by kernel_rfl, (by kernel_rfl : _ = consD g5.next (marksV ds)).trans (by rw [n5]; rfl), trivial⟩)
  · intro hlt
    have hlt : m = N := by have := of_decide_eq_false hlt; simp at this; omega
    subst hlt
    have Xh : h.Ext g := ⟨by omega, fun j hj => by rw [X.get j (by omega) (by simp; omega)]; exact o6 j hj⟩
    have tkf := pt_tk f x m (by omega)
    refine ok_go 0 ?_
    refine sy_loop 0 lf g (α := Nat × Value × Nat × List Int) (fun s => [(7, ptr (h.next + 3) 0), (11, s.2.1), (12, J s.1), (slotD, marksV ds)])
      (fun s q => s.1 < m ∧ s.1 ≤ s.2.2.1 ∧ s.2.2.2 ++ tk (pt f x m).2 s.2.2.1 s.1 = tk (pt f x m).2 m (m - 1) ∧ s.2.2.2.length + pop s.1 ≤ 6 ∧ g.Ext q ∧ OpenSl q 3 s.2.1 (s.2.2.2.map I) ∧ ∀ j, j < g.next → ∀ p q, s.2.1 ≠ .slice (some ⟨j, 0, none⟩) p q) (fun s _ => s.1) (m - 1, .slice none 0 0, m, [])
      (by kernel_rfl) (by kernel_rfl) ⟨by kernel_rfl, by kernel_rfl, by kernel_rfl, by kernel_rfl, trivial⟩ (show m - 1 < lf by omega) ⟨by show m - 1 < m; omega, by show m - 1 ≤ m; omega, rfl, by have := pop_six (m := m - 1) (by omega); show 0 + pop (m - 1) ≤ 6; omega, Hp.Ext.refl _, .inl ⟨rfl, rfl⟩, fun j _ p q hc => by cases hc⟩ ?_
    rintro m2 ⟨mm, l, k, pre⟩ f2 q ⟨hmm, hk, htk, hlen, Xq, O, hne⟩ ih2
    dsimp only at hmm hk htk hlen O hne
    have nq := Xq.next
    refine ok_go 1 ?_
    refine sy_test 0 (decide (Int.ofNat mm > 0)) (by kernel_rfl) ?_ ?_
    · intro h0
      have h0 : 0 < mm := by have := of_decide_eq_true h0; simp at this; omega
      obtain ⟨k, rfl⟩ : ∃ k', k = k' + 1 := ⟨k - 1, by omega⟩
      have rT := (T.of (g := q) nq (Xq.get _ (by omega))).read (x := mm) (by omega)
      rw [tk, if_neg (by omega)] at htk
      refine ok_go 0 ?_
      refine sy_load 0 (r := indexAddrOp Try.prog 102 (ptr (h.next + 3) 0) (J mm)) (h' := q) (by kernel_rfl) (idx102 (by omega)) ?_
      refine ok_go 0 ?_
      refine sy_load 0 (r := loadT Try.prog q 3 (ptr (h.next + 3) mm)) (h' := q) (by kernel_rfl) rT ?_
      rcases tkf mm with hz | ⟨t, ht0, htm, hts, hz⟩
      · rw [hz] at htk ⊢
        rw [if_neg (by decide)] at htk
        obtain ⟨hlo, hl0, hlm, hll, -⟩ := lo_ok h0 (by omega : mm < 64)
        have hml : mm ^^^ lo mm < mm := xlt (by omega) (by omega) hl0 hlm
        have hno := not_nat (a := mm) (by omega) (by omega) hlm
        have hpp := pop_lt (m := mm) (by omega) (by omega) hl0 hlm
        refine ok_go 5 ?_
        exact sy_next 0 _ q (by kernel_rfl) (by kernel_rfl) (ih2 (mm ^^^ lo mm, l, k, pre) _ q ⟨by show mm ^^^ lo mm < m; omega, by show mm ^^^ lo mm ≤ k; omega, htk, by show pre.length + pop (mm ^^^ lo mm) ≤ 6; omega, Xq, O, hne⟩ hml ⟨by kernel_rfl, by kernel_rfl, (by kernel_rfl : _ = Value.int .i64 (notI (Int.ofNat mm) (andI (Int.ofNat mm) (IntKind.i64.wrap (0 - Int.ofNat mm))))).trans (by rw [hlo, hno]), by kernel_rfl, trivial⟩)
      · rw [hz] at htk ⊢
        rw [if_pos (by show (0 : Int) < (t : Int); omega), show (Int.ofNat t).toNat = t from rfl] at htk
        have hmt : mm ^^^ t < mm := xlt (by omega) (by omega) ht0 hts
        have hno := not_nat (a := mm) (by omega) (by omega) hts
        have hpp := pop_lt (m := mm) (by omega) (by omega) ht0 hts
        obtain ⟨l', q', e3, O', y1, y2, y3⟩ := append1 slI O (v := J t) rfl (by simp; omega)
        refine ok_go 1 ?_
        refine sy_yes 0 (b := decide (Int.ofNat t > 0)) (by kernel_rfl) (decide_eq_true (by show (0 : Int) < (t : Int); omega)) ?_
        refine ok_go 1 ?_
        refine sy_call 0 (r := appendOp Try.prog (q.new (.cells [J t] 3 false)) 50 l (.slice (some ⟨q.next, 0, none⟩) 1 2)) (v := l') (h' := q') (by kernel_rfl) e3 ?_
        refine ok_go 1 ?_
        exact sy_next 0 _ q' (by kernel_rfl) (by kernel_rfl) (ih2 (mm ^^^ t, l', k, pre ++ [Int.ofNat t]) _ q' ⟨by show mm ^^^ t < m; omega, by show mm ^^^ t ≤ k; omega, by show (pre ++ [Int.ofNat t]) ++ tk _ k (mm ^^^ t) = _; rw [List.append_assoc]; exact htk, by show (pre ++ [Int.ofNat t]).length + pop (mm ^^^ t) ≤ 6; rw [List.length_append, List.length_singleton]; omega,
          ⟨by omega, fun j hj => (y2 j (by omega) (hne j hj)).trans (Xq.get j hj)⟩, by show OpenSl q' 3 l' ((pre ++ [Int.ofNat t]).map I); rw [List.map_append]; exact O', fun j hj => y3 j (by omega)⟩ hmt ⟨by kernel_rfl, by kernel_rfl, (by kernel_rfl : _ = Value.int .i64 (notI (Int.ofNat mm) (Int.ofNat t))).trans (by rw [hno]), by kernel_rfl, trivial⟩)
    · intro h0
      have h0 : mm = 0 := by have := of_decide_eq_false h0; simp at this; omega
      subst h0
      have htk : pre = tk (pt f x m).2 m (m - 1) := by
        rw [← htk]
        cases k with
        | zero => rw [tk, List.append_nil]
        | succ k => rw [tk, if_pos rfl, List.append_nil]
      have marks : ∀ g2 : Hp, g.Ext g2 ∧ True → ∀ d ∈ ds, g2.get d = some (.defd false) := fun g2 E d hd => by
        obtain ⟨d1, d2, d3, d4⟩ := hds d hd
        rw [E.1.get d d2]; exact d4
      rcases O with ⟨rfl, hp⟩ | ⟨i, rfl, hp, hi, hg, hsc⟩
      · have hp : pre = [] := List.map_eq_nil_iff.1 hp
        obtain ⟨v, e⟩ := sn q
        refine ok_go 0 ?_
        refine sy_call 0 (by kernel_rfl) e ?_
        refine ok_go 0 ?_
        refine sy_marks 0 (h := q) ds (by kernel_rfl) nd (marks q ⟨Xq, trivial⟩) fun h' n'' o'' => ?_
        refine ok_go 0 ?_
        refine sy_done 0 (v := .slice none 0 0) (h := h') (by kernel_rfl) ⟨[], none, 0, by rw [← htk, hp], fun p q hp => absurd hp (by simp), rfl, .inl ⟨⟨none, rfl⟩, rfl⟩, by simp, ⟨by have := Xh.next; omega, fun j hj => ?_⟩⟩
        rw [o'' j (fun hd => by have := (hds _ hd).1; omega), Xq.get j (by have := Xh.next; omega)]
        exact Xh.get j hj
      · have hlp : (pre.map I).length = pre.length := List.length_map ..
        have hig : g.next ≤ i := by
          rcases Nat.lt_or_ge i g.next with h1 | h1
          · exact absurd rfl (hne i h1 _ _)
          · exact h1
        obtain ⟨v, q2, e, ys, p1, p2, p3, p4, p5⟩ := so i pre.length (2 * pre.length + 1) pre q (by omega) rfl ⟨hi, true, hg⟩
        rw [hlp]
        have Xq2 : g.Ext q2 := ⟨by omega, fun j hj => by rw [p5 j (by omega)]; exact Xq.get j hj⟩
        refine ok_go 0 ?_
        refine sy_call 0 (by kernel_rfl) e ?_
        refine ok_go 0 ?_
        refine sy_marks 0 (h := q2) ds (by kernel_rfl) nd (marks q2 ⟨Xq2, trivial⟩) fun h' n'' o'' => ?_
        have hyl : ys.length = pre.length := p1.length_eq
        obtain ⟨p3a, o, p3b⟩ := p3
        have hgi : h'.get i = some (.cells (ys.map I) 3 o) := by
          rw [o'' i (fun hd => by have := (hds _ hd).2.1; omega)]; exact p3b
        refine ok_go 0 ?_
        refine sy_done 0 (v := .slice (some ⟨i, 0, none⟩) pre.length (2 * pre.length + 1)) (h := h') (by kernel_rfl) ⟨ys, some ⟨i, 0, none⟩, 2 * pre.length + 1, by rw [← htk]; exact p1, p2, by rw [hyl], .inr ⟨i, 0, 2 * pre.length + 1, by rw [List.length_map, hyl], fun _ => ⟨by omega, by unfold loadN; rw [hgi]; exact takeN_all _⟩⟩, by omega, ⟨by have := Xh.next; have := Xq2.next; omega, fun j hj => ?_⟩⟩
        rw [o'' j (fun hd => by have := (hds _ hd).1; omega), Xq2.get j (by have := Xh.next; omega)]
        exact Xh.get j hj
end Go.Proofs.Ytnfboopfpkaeaaa
/- SeesM: contracts of functions. -/
namespace Go.Proofs.Ytnfboopfpkaeaaa
open Go Go.Eng Nim
set_option maxRecDepth 100000
set_option maxHeartbeats 4000000
/-- The blocks at x, as they are taken. -/
def bk (f : Nat → Bool) (N x : Nat) : List Int := tk (pt f x N).2 N (N - 1)
/-- A sorted list of the blocks at x, in a heap. -/
structure BkL (f : Nat → Bool) (N x : Nat) (v : Value) (ys : List Int) (h : Hp) : Prop where
  perm : ys.Perm (bk f N x)
  sorted : ∀ p q (hp : p < ys.length) (hq : q < ys.length), p < q → ys[p] ≤ ys[q]
  rd : Rds h v (ys.map I)
  six : ys.length ≤ 6
theorem Blocks_of (f : Nat → Bool) (n : Nat) (hn : n ≤ 6) (lf m0 : Nat) (hlf : 300 ≤ lf) (ck : ∀ a c h, Ev lf m0 54 [.slice a (2 ^ n) c] h = some (J 0, h)) (b0 c : Nat) (h : Hp) (A : ArB b0 (2 ^ n) f h)
    (bo : ∀ x h, x < 2 ^ n → ArB b0 (2 ^ n) f h → ∃ v h', Ev lf m0 77 [.slice (some ⟨b0, 0, none⟩) (2 ^ n) c, J x] h = some (v, h') ∧ ∃ (ys : List Int) (a : Option Addr) (cc : Nat), ys.Perm (tk (pt f x (2 ^ n)).2 (2 ^ n) (2 ^ n - 1)) ∧ (∀ p q (hp : p < ys.length) (hq : q < ys.length), p < q → ys[p] ≤ ys[q]) ∧ v = .slice a ys.length cc ∧ Rds h' v (ys.map I) ∧ ys.length ≤ 6 ∧ h.Ext h') :
    ∃ v h', Ev lf (m0 + 1) 37 [.slice (some ⟨b0, 0, none⟩) (2 ^ n) c] h = some (v, h') ∧ ∃ x l ys, v = .tuple #[J x, l, J 0] ∧ x < 2 ^ n ∧ BkL f (2 ^ n) x l ys h' ∧ (∀ y, y < 2 ^ n → (bk f (2 ^ n) y).length ≤ ys.length) ∧ h.Ext h' := by
  have hp64 : 2 ^ n ≤ 64 := Nat.pow_le_pow_right (n := 2) (by decide) hn
  have hp0 : 1 ≤ 2 ^ n := Nat.one_le_two_pow
  have ck := ck (some ⟨b0, 0, none⟩) c h
  refine fnS_ok (Q := fun v h' => ∃ x l ys, v = .tuple #[J x, l, J 0] ∧ x < 2 ^ n ∧ BkL f (2 ^ n) x l ys h' ∧ (∀ y, y < 2 ^ n → (bk f (2 ^ n) y).length ≤ ys.length) ∧ h.Ext h') ?_
  generalize hN : 2 ^ n = N at *
  refine ok_go 0 ?_
  refine sy_call 0 (by kernel_rfl) ck ?_
  obtain ⟨v, h1, e1, ys, a, cc, p1, p2, rfl, p4, p5, X1⟩ := bo 0 h (by omega) A
  refine ok_go 2 ?_
  refine sy_call 0 (by kernel_rfl) e1 ?_
  have h00 : ∀ y, y ≤ 0 → (bk f N y).length ≤ ys.length := fun y hy => by
    obtain rfl : y = 0 := by omega
    exact Nat.le_of_eq p1.length_eq.symm
  refine ok_go 0 ?_
  refine sy_loop 0 lf h1 (α := Nat × Nat × Option Addr × Nat × List Int) (fun s => [(0, .slice (some ⟨b0, 0, none⟩) N c), (6, J s.2.1), (7, .slice s.2.2.1 s.2.2.2.2.length s.2.2.2.1), (8, J (s.1 + 1))])
    (fun s g => s.1 + 1 ≤ N ∧ s.2.1 < N ∧ BkL f N s.2.1 (.slice s.2.2.1 s.2.2.2.2.length s.2.2.2.1) s.2.2.2.2 g ∧ (∀ y, y ≤ s.1 → (bk f N y).length ≤ s.2.2.2.2.length) ∧ h.Ext g) (fun s _ => N - s.1) (0, 0, a, cc, ys) (by kernel_rfl) (by kernel_rfl)
    ⟨by kernel_rfl, by kernel_rfl, by kernel_rfl, by kernel_rfl, trivial⟩ (show N - 0 < lf by omega) ⟨hp0, hp0, ⟨p1, p2, p4, p5⟩, h00, X1⟩ ?_
  clear h00 p1 p2 p4 p5 e1 X1
  rintro m1 ⟨x, at', a, cc, ys⟩ f1 g ⟨hx, hat, K, hall, X⟩ ih
  dsimp only at hx hat K hall
  refine ok_go 2 ?_
  refine sy_test 0 (decide (Int.ofNat (x + 1) < Int.ofNat N)) (by kernel_rfl) ?_ ?_
  · intro hlt
    have hlt := ok_nat hlt
    have hwx : IntKind.wrap .i64 (Int.ofNat (x + 2)) = Int.ofNat (x + 2) := wrap_nat (by omega)
    obtain ⟨v, g', e1, ys', a', cc', p1, p2, rfl, p4, p5, X1⟩ := bo (x + 1) g hlt (A.ext X)
    refine ok_go 0 ?_
    refine sy_call 0 (by kernel_rfl) e1 ?_
    refine ok_go 3 ?_
    refine sy_test 0 (decide (Int.ofNat ys'.length > Int.ofNat ys.length)) (by kernel_rfl) ?_ ?_
    · intro hc
      have hc : ys.length < ys'.length := by have := of_decide_eq_true hc; simp at this; omega
      refine ok_go 1 ?_
      exact sy_next 0 _ g' (by kernel_rfl) (by kernel_rfl) (ih (x + 1, x + 1, a', cc', ys') _ g' ⟨by show x + 1 + 1 ≤ N; omega, hlt, ⟨p1, p2, p4, p5⟩, fun y hy => by
        have hy : y ≤ x + 1 := hy
        by_cases hyx : y = x + 1
        · rw [hyx]; exact Nat.le_of_eq p1.length_eq.symm
        · exact Nat.le_trans (hall y (by omega)) (Nat.le_of_lt hc), X.trans X1⟩ (show N - (x + 1) < N - x by omega) ⟨by kernel_rfl, by kernel_rfl, by kernel_rfl, (by kernel_rfl : _ = Value.int .i64 (IntKind.wrap .i64 (Int.ofNat (x + 2)))).trans (by rw [hwx]), trivial⟩)
    · intro hc
      have hc : ys'.length ≤ ys.length := by have := of_decide_eq_false hc; simp at this; omega
      refine ok_go 1 ?_
      exact sy_next 0 _ g' (by kernel_rfl) (by kernel_rfl) (ih (x + 1, at', a, cc, ys) _ g' ⟨by show x + 1 + 1 ≤ N; omega, hat, ⟨K.perm, K.sorted, K.rd.ext X1, K.six⟩, fun y hy => by
        have hy : y ≤ x + 1 := hy
        by_cases hyx : y = x + 1
        · rw [hyx]; exact Nat.le_trans (Nat.le_of_eq p1.length_eq.symm) hc
        · exact hall y (by omega), X.trans X1⟩ (show N - (x + 1) < N - x by omega) ⟨by kernel_rfl, by kernel_rfl, by kernel_rfl, (by kernel_rfl : _ = Value.int .i64 (IntKind.wrap .i64 (Int.ofNat (x + 2)))).trans (by rw [hwx]), trivial⟩)
  · intro hlt
    have hlt := no_nat hlt
    refine ok_go 0 ?_
    exact sy_done 0 (v := .tuple #[J at', .slice a ys.length cc, J 0]) (h := g) (by kernel_rfl) ⟨at', _, ys, rfl, hat, K, fun y hy => hall y (by omega), X⟩
end Go.Proofs.Ytnfboopfpkaeaaa
/- SeesN: contracts of functions. -/
namespace Go.Proofs.Ytnfboopfpkaeaaa
open Go Go.Eng Nim
set_option maxRecDepth 100000
set_option maxHeartbeats 4000000
/-! Masks within masks. -/
theorem sb_iff {k m : Nat} : k &&& m = k ↔ ∀ i, k.testBit i = true → m.testBit i = true := by
  constructor
  · intro h i hi
    have := congrArg (fun z => z.testBit i) h
    simp only [Nat.testBit_and, hi, Bool.true_and] at this
    exact this
  · intro h
    refine Nat.eq_of_testBit_eq fun i => ?_
    rw [Nat.testBit_and]
    cases hk : k.testBit i with
    | false => rfl
    | true => rw [h i hk]; rfl
theorem dj_iff {k m : Nat} : k &&& m = 0 ↔ ∀ i, k.testBit i = true → m.testBit i = false := by
  constructor
  · intro h i hi
    have := congrArg (fun z => z.testBit i) h
    simp only [Nat.testBit_and, hi, Bool.true_and, Nat.zero_testBit] at this
    exact this
  · intro h
    refine Nat.eq_of_testBit_eq fun i => ?_
    rw [Nat.testBit_and, Nat.zero_testBit]
    cases hk : k.testBit i with
    | false => rfl
    | true => rw [h i hk]; rfl
theorem xx_comm (m k j : Nat) : (m ^^^ k) ^^^ j = (m ^^^ j) ^^^ k := by rw [Nat.xor_assoc, Nat.xor_comm k j, ← Nat.xor_assoc]
/-- k within m, not meeting l within m: within what is left. -/
theorem sb_rest {k l m : Nat} (hk : k &&& m = k) (hd : k &&& l = 0) : k &&& (m ^^^ l) = k := by
  refine sb_iff.2 fun i hi => ?_
  rw [Nat.testBit_xor, sb_iff.1 hk i hi, dj_iff.1 hd i hi]; rfl
theorem sb_of_rest {j k m : Nat} (hk : k &&& m = k) (hj : j &&& (m ^^^ k) = j) : j &&& m = j ∧ j &&& k = 0 := by
  have key : ∀ i, j.testBit i = true → m.testBit i = true ∧ k.testBit i = false := fun i hi => by
    have := sb_iff.1 hj i hi
    rw [Nat.testBit_xor] at this
    cases hki : k.testBit i with
    | true =>
      have h2 := sb_iff.1 hk i hki
      rw [hki, h2] at this
      cases this
    | false => rw [hki, Bool.xor_false] at this; exact ⟨this, rfl⟩
  exact ⟨sb_iff.2 fun i hi => (key i hi).1, dj_iff.2 fun i hi => (key i hi).2⟩
theorem dj_comm {k j : Nat} (h : k &&& j = 0) : j &&& k = 0 := by rw [Nat.and_comm]; exact h
theorem sb_minus {l k m : Nat} (hk : k &&& m = k) (hl : l &&& k = l) : (k ^^^ l) &&& (m ^^^ l) = k ^^^ l := by
  refine sb_iff.2 fun i hi => ?_
  rw [Nat.testBit_xor] at hi ⊢
  cases hli : l.testBit i with
  | true =>
    have h2 := sb_iff.1 hl i hli
    rw [hli, h2] at hi
    cases hi
  | false =>
    rw [hli, Bool.xor_false] at hi
    rw [sb_iff.1 hk i hi]; rfl
theorem xx_minus (m k l : Nat) : (m ^^^ l) ^^^ (k ^^^ l) = m ^^^ k := by
  rw [Nat.xor_comm k l, ← Nat.xor_assoc, Nat.xor_assoc m l l, Nat.xor_self, Nat.xor_zero]
noncomputable def loC (m k : Nat) : Bool := Nat.beq (k &&& lo m) 0 || Nat.beq (lo m &&& k) (lo m)
theorem loC_all : allB 64 (fun m => allB 64 fun k => loC m k) = true := by kernel_rfl
theorem lo_in {m k : Nat} (hm : m < 64) (hk : k < 64) (h : k &&& lo m ≠ 0) : lo m &&& k = lo m := by
  have := allB_ok (allB_ok loC_all m hm) k hk
  unfold loC at this
  rw [Bool.or_eq_true] at this
  rcases this with h1 | h1
  · exact absurd (Nat.eq_of_beq_eq_true h1) h
  · exact Nat.eq_of_beq_eq_true h1

/-! The program's table. -/
theorem pst_congr (f : Nat → Bool) (x : Nat) {P P' : Nat → Int} (m : Nat) (hm : m < 64) (h0 : 0 < m) (h : ∀ y, y < m → P y = P' y) : ∀ s, s ≤ m → pst f x P m s = pst f x P' m s
  | 0, _ => by
    obtain ⟨-, hl0, hlm, hll, -⟩ := lo_ok h0 hm
    rw [pst, pst, h _ (xlt hm (by omega) hl0 hlm)]
  | s + 1, hs => by
    rw [pst, pst, pst_congr f x m hm h0 h s (by omega)]
    cases hsub : sub (s + 1) m with
    | false => simp only [Bool.false_and]; rfl
    | true => rw [h _ (xlt hm (by omega) (by omega) (sub_nat hsub))]
theorem pt_const (f : Nat → Bool) (x : Nat) (y : Nat) : ∀ m, y < m → (pt f x m).1 y = (pt f x (y + 1)).1 y ∧ (pt f x m).2 y = (pt f x (y + 1)).2 y
  | 0, h => absurd h (Nat.not_lt_zero _)
  | m + 1, h => by
    by_cases e : y = m
    · rw [e]; exact ⟨rfl, rfl⟩
    · have ih := pt_const f x y m (by omega)
      rw [← ih.1, ← ih.2]
      rw [pt, if_neg (by omega)]
      exact ⟨if_neg e, if_neg e⟩
theorem pt_at (f : Nat → Bool) (x N : Nat) (hN : N ≤ 64) {m : Nat} (hm : m < N) (h0 : 0 < m) : (pt f x N).1 m = (pst f x (pt f x N).1 m m).1 ∧ (pt f x N).2 m = (pst f x (pt f x N).1 m m).2 := by
  have h := pt_const f x m N hm
  have e : pst f x (pt f x m).1 m m = pst f x (pt f x N).1 m m := pst_congr f x m (by omega) h0 (fun y hy => by
    rw [(pt_const f x y m hy).1, (pt_const f x y N (by omega)).1]) m (Nat.le_refl _)
  rw [h.1, h.2, pt, if_neg (by omega), ← e]
  exact ⟨if_pos rfl, if_pos rfl⟩
theorem pt_nil (f : Nat → Bool) (x N : Nat) (hN : 0 < N) : (pt f x N).1 0 = 0 := by rw [(pt_const f x 0 N hN).1]; rfl

theorem pst_mono (f : Nat → Bool) (x : Nat) (P : Nat → Int) (m : Nat) : ∀ s t, s ≤ t → (pst f x P m s).1 ≤ (pst f x P m t).1
  | s, 0, h => by rw [show s = 0 by omega]; exact Int.le_refl _
  | s, t + 1, h => by
    by_cases e : s = t + 1
    · rw [e]; exact Int.le_refl _
    · have ih := pst_mono f x P m s t (by omega)
      rw [pst.eq_2]
      split
      · rename_i hc
        simp only [Bool.and_eq_true, decide_eq_true_eq] at hc
        have := hc.2
        show _ ≤ P (m ^^^ (t + 1)) + 1
        omega
      · exact ih
theorem pst_ge (f : Nat → Bool) (x : Nat) (P : Nat → Int) (m : Nat) {k : Nat} (h0 : 0 < k) (hk : k &&& m = k) (hkm : k ≤ m) (hs : f (x ^^^ k) ≠ f x) (hl : k &&& lo m ≠ 0) : P (m ^^^ k) + 1 ≤ (pst f x P m m).1 := by
  obtain ⟨k, rfl⟩ : ∃ k', k = k' + 1 := ⟨k - 1, by omega⟩
  refine Int.le_trans ?_ (pst_mono f x P m (k + 1) m hkm)
  rw [pst.eq_2]
  split
  · exact Int.le_refl _
  · rename_i hc
    have h1 : sub (k + 1) m = true := by show ((k + 1) &&& m == k + 1) = true; rw [hk]; exact beq_self_eq_true _
    have h2 : ((k + 1) &&& lo m != 0) = true := by simpa using hl
    have h3 : (f (x ^^^ (k + 1)) != f x) = true := by simpa using hs
    rw [h1, h2, h3] at hc
    simp only [Bool.true_and, decide_eq_true_eq] at hc
    omega

/-- A block more: the table has it. -/
theorem pt_block (f : Nat → Bool) (x N : Nat) (hN : N ≤ 64) : ∀ (M m : Nat), m ≤ M → m < N → ∀ k, 0 < k → k &&& m = k → (pt f x N).1 (m ^^^ k) + sb f x k ≤ (pt f x N).1 m := by
  intro M
  induction M with
  | zero =>
    intro m hm _ k h0 hk
    have : k ≤ m := by rw [← hk]; exact Nat.and_le_right
    omega
  | succ M ih =>
    intro m hm hmN k h0 hk
    have hkm : k ≤ m := by rw [← hk]; exact Nat.and_le_right
    have hm0 : 0 < m := by omega
    have hm64 : m < 64 := by omega
    obtain ⟨-, hl0, hlm, hll, hlr⟩ := lo_ok hm0 hm64
    have hat := (pt_at f x N hN hmN hm0).1
    have hPl : (pt f x N).1 (m ^^^ lo m) ≤ (pt f x N).1 m := by
      rw [hat]
      exact pst_mono f x _ m 0 m (Nat.zero_le _)
    have hml : m ^^^ lo m < m := xlt hm64 (by omega) hl0 hlm
    by_cases hd : k &&& lo m = 0
    · have hk64 : k < 64 := by omega
      obtain ⟨r1, r2⟩ := hlr k hk64 hk hd
      have hmk : m ^^^ k < m := xlt hm64 hk64 h0 hk
      have hmk0 : 0 < m ^^^ k := by
        rcases Nat.eq_zero_or_pos (m ^^^ k) with h | h
        · rw [h] at r2; rw [Nat.and_zero] at r2; omega
        · exact h
      have hat2 := (pt_at f x N hN (show m ^^^ k < N by omega) hmk0).1
      rcases (pst_ok f x (pt f x N).1 (m ^^^ k) (by omega) hmk0 (fun y _ => pt_le f x N hN y) (m ^^^ k) (Nat.le_refl _)).2 with ⟨-, h⟩ | ⟨j, j0, jm, js, jf, jl, -, h⟩
      · rw [hat2, h, r1, xx_comm]
        exact Int.le_trans (ih (m ^^^ lo m) (by omega) (by omega) k h0 (sb_rest hk hd)) hPl
      · obtain ⟨s1, s2⟩ := sb_of_rest hk js
        rw [r1] at jl
        have hjm : j ≤ m := by rw [← s1]; exact Nat.and_le_right
        have hmj : m ^^^ j < m := xlt hm64 (by omega) j0 s1
        have h3 := ih (m ^^^ j) (by omega) (by omega) k h0 (sb_rest hk (dj_comm s2))
        have h4 := pst_ge f x (pt f x N).1 m j0 s1 hjm jf jl
        rw [← hat] at h4
        rw [hat2, h, xx_comm]
        omega
    · by_cases hs : f (x ^^^ k) = f x
      · have hsb : sb f x k = 0 := by unfold sb; rw [hs, bne_self_eq_false]; rfl
        have hlk := lo_in hm64 (show k < 64 by omega) hd
        rw [hsb, Int.add_zero]
        by_cases hkl : k = lo m
        · rw [hkl]; exact hPl
        · have h3 := ih (m ^^^ lo m) (by omega) (by omega) (k ^^^ lo m) (Nat.pos_of_ne_zero fun h => hkl (xor_zero.1 h)) (sb_minus hk hlk)
          rw [xx_minus] at h3
          have := sb_le f x (k ^^^ lo m)
          omega
      · have h4 := pst_ge f x (pt f x N).1 m h0 hk hkm hs hd
        rw [← hat] at h4
        have := sb_le f x k
        omega

/-! The reference's table. -/
theorem rin_congr (f : Nat → Bool) (x : Nat) {B B' : Nat → Int} (m : Nat) (hm : m < 64) (h : ∀ y, y < m → B y = B' y) : ∀ j, j ≤ m → rin f x B m j = rin f x B' m j
  | 0, _ => rfl
  | j + 1, hj => by
    rw [rin, rin, rin_congr f x m hm h j (by omega)]
    cases hsub : sub (j + 1) m with
    | false => rfl
    | true => rw [h _ (xlt hm (by omega) (by omega) (sub_nat hsub))]
theorem rt_const (f : Nat → Bool) (x : Nat) (y : Nat) : ∀ m, y < m → rt f x m y = rt f x (y + 1) y
  | 0, h => absurd h (Nat.not_lt_zero _)
  | m + 1, h => by
    by_cases e : y = m
    · rw [e]
    · rw [← rt_const f x y m (by omega), rt]
      exact if_neg e
theorem rt_at (f : Nat → Bool) (x N : Nat) (hN : N ≤ 64) {m : Nat} (hm : m < N) : rt f x N m = rin f x (rt f x N) m m := by
  rw [rt_const f x m N hm, rt]
  show (if m = m then _ else _) = _
  rw [if_pos rfl]
  exact rin_congr f x m (by omega) (fun y hy => by rw [rt_const f x y m hy, rt_const f x y N (by omega)]) m (Nat.le_refl _)
theorem rin_mono (f : Nat → Bool) (x : Nat) (B : Nat → Int) (m : Nat) : ∀ s t, s ≤ t → rin f x B m s ≤ rin f x B m t
  | s, 0, h => by rw [show s = 0 by omega]; exact Int.le_refl _
  | s, t + 1, h => by
    by_cases e : s = t + 1
    · rw [e]; exact Int.le_refl _
    · have ih := rin_mono f x B m s t (by omega)
      rw [rin.eq_2]
      split
      · exact Int.le_trans ih (Int.le_max_left ..)
      · exact ih
theorem rin_ge (f : Nat → Bool) (x : Nat) (B : Nat → Int) (m : Nat) {k : Nat} (h0 : 0 < k) (hk : k &&& m = k) (hkm : k ≤ m) : B (m ^^^ k) + sb f x k ≤ rin f x B m m := by
  obtain ⟨k, rfl⟩ : ∃ k', k = k' + 1 := ⟨k - 1, by omega⟩
  refine Int.le_trans ?_ (rin_mono f x B m (k + 1) m hkm)
  have h1 : sub (k + 1) m = true := by show ((k + 1) &&& m == k + 1) = true; rw [hk]; exact beq_self_eq_true _
  rw [rin.eq_2, if_pos h1]
  exact Int.le_max_right ..
theorem rin_up (f : Nat → Bool) (x : Nat) (B : Nat → Int) (m : Nat) (C : Int) (hC : 0 ≤ C) (h : ∀ k, 0 < k → k &&& m = k → B (m ^^^ k) + sb f x k ≤ C) : ∀ j, rin f x B m j ≤ C
  | 0 => hC
  | j + 1 => by
    rw [rin]
    split
    · rename_i hs
      exact Int.max_le.2 ⟨rin_up f x B m C hC h j, h (j + 1) (by omega) (sub_nat hs)⟩
    · exact rin_up f x B m C hC h j
theorem pt_rt (f : Nat → Bool) (x N : Nat) (hN : N ≤ 64) : ∀ (M m : Nat), m ≤ M → m < N → (pt f x N).1 m = rt f x N m := by
  intro M
  induction M with
  | zero =>
    intro m hm hmN
    obtain rfl : m = 0 := by omega
    rw [pt_nil f x N (by omega), rt_at f x N hN hmN]
    rfl
  | succ M ih =>
    intro m hm hmN
    by_cases hm0 : m = 0
    · exact ih m (by omega) hmN
    · have hm64 : m < 64 := by omega
      refine Int.le_antisymm ?_ ?_
      · rw [rt_at f x N hN hmN, (pt_at f x N hN hmN (by omega)).1]
        rcases (pst_ok f x (pt f x N).1 m hm64 (by omega) (fun y _ => pt_le f x N hN y) m (Nat.le_refl _)).2 with ⟨-, h⟩ | ⟨k, k0, km, ks, kf, -, -, h⟩
        · obtain ⟨-, hl0, hlm, hll, -⟩ := lo_ok (show 0 < m by omega) hm64
          have hml : m ^^^ lo m < m := xlt hm64 (by omega) hl0 hlm
          rw [h, ih _ (by omega) (by omega)]
          have h1 := rin_ge f x (rt f x N) m hl0 hlm hll
          have := sb_le f x (lo m)
          omega
        · have hmk : m ^^^ k < m := xlt hm64 (by omega) k0 ks
          rw [h, ih _ (by omega) (by omega)]
          have h1 := rin_ge f x (rt f x N) m k0 ks km
          have h2 : sb f x k = 1 := by
            unfold sb
            rw [if_pos]
            simp only [bne_iff_ne, ne_eq]
            exact fun e => kf e.symm
          omega
      · rw [rt_at f x N hN hmN]
        refine rin_up f x _ m _ (pt_le f x N hN m).1 (fun k k0 ks => ?_) m
        have hkm : k ≤ m := by rw [← ks]; exact Nat.and_le_right
        have hmk : m ^^^ k < m := xlt hm64 (by omega) k0 ks
        rw [← ih _ (by omega) (by omega)]
        exact pt_block f x N hN m m (Nat.le_refl _) hmN k k0 ks

/-! The blocks that are taken. -/
theorem tk_len (f : Nat → Bool) (x N : Nat) (hN : N ≤ 64) : ∀ (k m : Nat), m ≤ k → m < N → ((tk (pt f x N).2 k m).length : Int) = (pt f x N).1 m
  | 0, m, h, hm => by
    obtain rfl : m = 0 := by omega
    rw [pt_nil f x N (by omega)]
    rfl
  | k + 1, m, h, hm => by
    unfold tk
    by_cases h0 : m = 0
    · rw [if_pos h0, h0, pt_nil f x N (by omega)]; rfl
    · rw [if_neg h0]
      have ha := pt_at f x N hN hm (by omega)
      rcases (pst_ok f x (pt f x N).1 m (by omega) (by omega) (fun y _ => pt_le f x N hN y) m (Nat.le_refl _)).2 with ⟨h2, h1⟩ | ⟨j, j0, jm, js, jf, -, h2, h1⟩
      · obtain ⟨-, hl0, hlm, hll, -⟩ := lo_ok (show 0 < m by omega) (by omega)
        have hml : m ^^^ lo m < m := xlt (by omega) (by omega) hl0 hlm
        rw [ha.2, h2, if_neg (by decide), tk_len f x N hN k _ (by omega) (by omega), ha.1, h1]
      · have hmj : m ^^^ j < m := xlt (by omega) (by omega) j0 js
        rw [ha.2, h2, if_pos (by show (0 : Int) < (j : Int); omega), show (Int.ofNat j).toNat = j from rfl, List.length_cons, Int.natCast_add, tk_len f x N hN k _ (by omega) (by omega), ha.1, h1]
        rfl
/-- A block at x. -/
def Blk (f : Nat → Bool) (N x m : Nat) (z : Int) : Prop := ∃ k, z = Int.ofNat k ∧ 0 < k ∧ k &&& m = k ∧ k < N ∧ f (x ^^^ k) ≠ f x
theorem tk_blk (f : Nat → Bool) (x N : Nat) (hN : N ≤ 64) : ∀ (k m : Nat), m < N → (∀ z ∈ tk (pt f x N).2 k m, Blk f N x m z) ∧ (tk (pt f x N).2 k m).Pairwise fun a b => a.toNat &&& b.toNat = 0
  | 0, m, hm => ⟨fun z hz => (by cases hz), List.Pairwise.nil⟩
  | k + 1, m, hm => by
    unfold tk
    by_cases h0 : m = 0
    · rw [if_pos h0]; exact ⟨fun z hz => (by cases hz), List.Pairwise.nil⟩
    · rw [if_neg h0]
      have ha := pt_at f x N hN hm (by omega)
      have up : ∀ j, j &&& m = j → ∀ z, Blk f N x (m ^^^ j) z → Blk f N x m z := fun j hj z ⟨k, e, k0, ks, kN, kf⟩ => ⟨k, e, k0, (sb_of_rest hj ks).1, kN, kf⟩
      rcases (pst_ok f x (pt f x N).1 m (by omega) (by omega) (fun y _ => pt_le f x N hN y) m (Nat.le_refl _)).2 with ⟨h2, -⟩ | ⟨j, j0, jm, js, jf, -, h2, -⟩
      · obtain ⟨-, hl0, hlm, hll, -⟩ := lo_ok (show 0 < m by omega) (by omega)
        have hml : m ^^^ lo m < m := xlt (by omega) (by omega) hl0 hlm
        rw [ha.2, h2, if_neg (by decide)]
        obtain ⟨i1, i2⟩ := tk_blk f x N hN k (m ^^^ lo m) (by omega)
        exact ⟨fun z hz => up _ hlm z (i1 z hz), i2⟩
      · have hmj : m ^^^ j < m := xlt (by omega) (by omega) j0 js
        rw [ha.2, h2, if_pos (by show (0 : Int) < (j : Int); omega), show (Int.ofNat j).toNat = j from rfl]
        obtain ⟨i1, i2⟩ := tk_blk f x N hN k (m ^^^ j) (by omega)
        refine ⟨fun z hz => ?_, List.pairwise_cons.2 ⟨fun z hz => ?_, i2⟩⟩
        · rcases List.mem_cons.1 hz with rfl | hz
          · exact ⟨j, rfl, j0, js, by omega, jf⟩
          · exact up _ js z (i1 z hz)
        · obtain ⟨k, rfl, k0, ks, -, -⟩ := i1 z hz
          exact dj_comm (sb_of_rest js ks).2
theorem bl_true (f : Nat → Bool) (N x M : Nat) : ∀ (ys : List Int) (used last : Nat), ys.Pairwise (fun a b => a ≤ b) → ys.Pairwise (fun a b => a.toNat &&& b.toNat = 0) → (∀ z ∈ ys, Blk f N x M z ∧ (last : Int) < z ∧ z.toNat &&& used = 0) → bl f N x used last ys = true
  | [], _, _, _, _, _ => rfl
  | z :: ys, used, last, h1, h2, h3 => by
    obtain ⟨⟨k, rfl, k0, ks, kN, kf⟩, hl, hu⟩ := h3 z (List.mem_cons_self ..)
    have h1 := List.pairwise_cons.1 h1
    have h2 := List.pairwise_cons.1 h2
    rw [show (Int.ofNat k).toNat = k from rfl] at hu
    have hl' : ¬ Int.ofNat k ≤ (last : Int) := by omega
    have hN' : ¬ (N : Int) ≤ Int.ofNat k := by show ¬ (N : Int) ≤ (k : Int); omega
    have hf : (f (x ^^^ k) == f x) = false := by simpa using kf
    have ih := bl_true f N x M ys (used ||| k) k h1.2 h2.2 fun z hz => by
      obtain ⟨hb, hl2, hu2⟩ := h3 z (List.mem_cons_of_mem _ hz)
      have hd := h2.1 z hz
      have hle := h1.1 z hz
      rw [show (Int.ofNat k).toNat = k from rfl] at hd
      have hb' := hb
      obtain ⟨j, rfl, j0, -, -, -⟩ := hb'
      rw [show (Int.ofNat j).toNat = j from rfl] at hd hu2 ⊢
      refine ⟨hb, ?_, ?_⟩
      · show (k : Int) < (j : Int)
        have hle : (k : Int) ≤ (j : Int) := hle
        have hne : k ≠ j := fun e => by rw [e, Nat.and_self] at hd; omega
        omega
      · refine dj_iff.2 fun i hi => ?_
        rw [Nat.testBit_or, dj_iff.1 hu2 i hi, dj_iff.1 (dj_comm hd) i hi]; rfl
    unfold bl
    rw [show (Int.ofNat k).toNat = k from rfl, decide_eq_false hl', decide_eq_false hN', hu, hf, ih]
    rfl
theorem bk_true {f : Nat → Bool} {N x : Nat} (hN : N ≤ 64) (h0 : 0 < N) {v : Value} {ys : List Int} {h : Hp} (K : BkL f N x v ys h) : bl f N x 0 0 ys = true := by
  obtain ⟨b1, b2⟩ := tk_blk f x N hN N (N - 1) (by omega)
  refine bl_true f N x (N - 1) ys 0 0 (List.pairwise_iff_getElem.2 fun i j hi hj hij => K.sorted i j hi hj hij) ((K.perm.pairwise_iff (fun {a b} h => dj_comm h)).2 b2) fun z hz => ?_
  have hb := b1 z (K.perm.mem_iff.1 hz)
  refine ⟨hb, ?_, Nat.and_zero _⟩
  obtain ⟨k, rfl, k0, -, -, -⟩ := hb
  show (0 : Int) < (k : Int)
  omega
theorem bk_len (f : Nat → Bool) (N x : Nat) (hN : N ≤ 64) (h0 : 0 < N) : ((bk f N x).length : Int) = rb f N x := by
  unfold bk rb
  rw [tk_len f x N hN N (N - 1) (by omega) (by omega)]
  exact pt_rt f x N hN (N - 1) (N - 1) (Nat.le_refl _) (by omega)
theorem mz_eq (v : Nat → Int) (N : Nat) (C : Int) (h1 : ∀ x, x < N → v x ≤ C) (h2 : ∃ x, x < N ∧ v x = C) (h0 : 0 ≤ C) : mz v N = C := by
  have up : ∀ k, k ≤ N → mz v k ≤ C := by
    intro k
    induction k with
    | zero => exact fun _ => h0
    | succ k ih => exact fun hk => Int.max_le.2 ⟨ih (by omega), h1 k (by omega)⟩
  have dn : ∀ k x, x < k → v x ≤ mz v k := by
    intro k
    induction k with
    | zero => intro x hx; omega
    | succ k ih =>
      intro x hx
      by_cases e : x = k
      · rw [e]; exact Int.le_max_right ..
      · exact Int.le_trans (ih x (by omega)) (Int.le_max_left ..)
  obtain ⟨x, hx, e⟩ := h2
  exact Int.le_antisymm (up N (Nat.le_refl _)) (e ▸ dn N x hx)
theorem bk_most {f : Nat → Bool} {N x : Nat} (hN : N ≤ 64) (h0 : 0 < N) (hx : x < N) {v : Value} {ys : List Int} {h : Hp} (K : BkL f N x v ys h) (hall : ∀ y, y < N → (bk f N y).length ≤ ys.length) : mz (rb f N) N = (ys.length : Int) :=
  mz_eq _ N _ (fun y hy => by rw [← bk_len f N y hN h0]; have := hall y hy; omega) ⟨x, hx, by rw [← bk_len f N x hN h0, K.perm.length_eq]⟩ (Int.natCast_nonneg _)
end Go.Proofs.Ytnfboopfpkaeaaa
/- SeesO: contracts of functions. -/
namespace Go.Proofs.Ytnfboopfpkaeaaa
open Go Go.Eng Nim
set_option maxRecDepth 100000
set_option maxHeartbeats 4000000
theorem rck_of (n lf m : Nat) (ln : ∀ h, Ev lf m 33 [J (2 ^ n)] h = some (J n, h)) (a : Option Addr) (c : Nat) (h : Hp) : Ev lf (m + 1) 59 [.slice a (2 ^ n) c] h = some (J 0, h) := by
  have ln := ln h
  refine fn_eq ?_
  generalize hN : 2 ^ n = N at *
  refine ok_go 1 ?_
  refine sy_call 0 (by kernel_rfl) ln ?_
  refine ok_go 2 ?_
  exact sy_done 0 (v := J 0) (h := h) (by kernel_rfl) ⟨rfl, rfl⟩
theorem bits5_of (z : Int) : ∃ k, k ≤ 5 ∧ ∀ lf m h, Ev lf (m + 1) 11 [I z, J 5] h = some (J k, h) := by
  have h0 : 0 ≤ IntKind.wrap .u64 z := by
    show 0 ≤ z % 2 ^ 64
    exact Int.emod_nonneg _ (by decide)
  obtain ⟨u, hu⟩ := Int.eq_ofNat_of_zero_le h0
  have hu : IntKind.wrap .u64 z = Int.ofNat u := hu
  refine ⟨u % 6, by omega, fun lf m h => ?_⟩
  refine fn_eq ?_
  refine ok_go 5 ?_
  exact sy_done 0 (v := I (IntKind.wrap .i64 ((IntKind.wrap .u64 z).tmod 6))) (h := h) (by kernel_rfl) ⟨by rw [hu]; show I (IntKind.wrap .i64 (Int.ofNat (u % 6))) = _; rw [wrap_nat (by omega)], rfl⟩
/-- What the law calls. -/
structure UpS (lf m : Nat) : Prop where
  hlf : 300 ≤ lf
  tb : ∀ x n kind h, n ≤ 6 → ∃ y h', Ev lf m 10 [.int .u64 x, J n, I kind] h = some (y, h') ∧ ∃ b f, y = .slice (some ⟨b, 0, none⟩) (2 ^ n) (2 * 2 ^ n) ∧ h.next ≤ b ∧ h.Ext h' ∧ ArB b (2 ^ n) f h'
  bt : ∀ z, ∃ k, k ≤ 6 ∧ ∀ h, Ev lf m 11 [I z, J 6] h = some (J k, h)
  b5 : ∀ z, ∃ k, k ≤ 5 ∧ ∀ h, Ev lf m 11 [I z, J 5] h = some (J k, h)
  se : ∀ f n b c h, n ≤ 6 → ArB b (2 ^ n) f h → ∃ v h', Ev lf m 36 [.slice (some ⟨b, 0, none⟩) (2 ^ n) c] h = some (v, h') ∧ v = .tuple #[I (mz (fun x => sp f x n) (2 ^ n)), J 0] ∧ h.Ext h'
  rse : ∀ f n b c h, n ≤ 6 → ArB b (2 ^ n) f h → Ev lf m 43 [.slice (some ⟨b, 0, none⟩) (2 ^ n) c] h = some (I (mz (fun x => sp f x n) (2 ^ n)), h)
  bks : ∀ f n b c h, n ≤ 6 → ArB b (2 ^ n) f h → ∃ v h', Ev lf m 37 [.slice (some ⟨b, 0, none⟩) (2 ^ n) c] h = some (v, h') ∧ ∃ x l ys, v = .tuple #[J x, l, J 0] ∧ x < 2 ^ n ∧ BkL f (2 ^ n) x l ys h' ∧ (∀ y, y < 2 ^ n → (bk f (2 ^ n) y).length ≤ ys.length) ∧ h.Ext h'
  rbl : ∀ f n b c h, n ≤ 6 → ArB b (2 ^ n) f h → ∃ v h', Ev lf m 46 [.slice (some ⟨b, 0, none⟩) (2 ^ n) c] h = some (v, h') ∧ v = I (mz (rb f (2 ^ n)) (2 ^ n)) ∧ h.Ext h'
  ib : ∀ f n b c x h, n ≤ 6 → x < 2 ^ n → ArB b (2 ^ n) f h → ∀ (w : List Int) la lc, w.length ≤ 64 → Rds h (.slice la w.length lc) (w.map I) → Ev lf m 45 [.slice (some ⟨b, 0, none⟩) (2 ^ n) c, J x, .slice la w.length lc] h = some (.bool (bl f (2 ^ n) x 0 0 w), h)
  rib : ∀ f n b c x h, n ≤ 6 → x < 2 ^ n → ArB b (2 ^ n) f h → ∀ (w : List Int) la lc, w.length ≤ 64 → Rds h (.slice la w.length lc) (w.map I) → Ev lf m 44 [.slice (some ⟨b, 0, none⟩) (2 ^ n) c, J x, .slice la w.length lc] h = some (.bool (bl f (2 ^ n) x 0 0 w), h)
  ibn : ∀ n (x : Int) a c l h, n ≤ 6 → (x < 0 ∨ (2 ^ n : Nat) ≤ x) → Ev lf m 45 [.slice a (2 ^ n) c, I x, l] h = some (.bool false, h)
  ribn : ∀ n (x : Int) a c l h, n ≤ 6 → (x < 0 ∨ (2 ^ n : Nat) ≤ x) → Ev lf m 44 [.slice a (2 ^ n) c, I x, l] h = some (.bool false, h)
  ces : ∀ f n b c h, n ≤ 6 → ArB b (2 ^ n) f h → Ev lf m 38 [.slice (some ⟨b, 0, none⟩) (2 ^ n) c] h = some (.tuple #[I (mz (cp f (2 ^ n)) (2 ^ n)), J 0], h)
  rces : ∀ f n b c h, n ≤ 6 → ArB b (2 ^ n) f h → Ev lf m 47 [.slice (some ⟨b, 0, none⟩) (2 ^ n) c] h = some (I (mz (cp f (2 ^ n)) (2 ^ n)), h)
  ce1 : ∀ f n b c x h, n ≤ 6 → x < 2 ^ n → ArB b (2 ^ n) f h → Ev lf m 48 [.slice (some ⟨b, 0, none⟩) (2 ^ n) c, J x] h = some (.tuple #[J (ce f x (2 ^ n) (2 ^ n)), J 0], h)
  cen : ∀ n (x : Int) a c h, n ≤ 6 → (x < 0 ∨ (2 ^ n : Nat) ≤ x) → Ev lf m 48 [.slice a (2 ^ n) c, I x] h = some (.tuple #[J 0, J 1], h)
  rce : ∀ f n b c x h, n ≤ 6 → x < 2 ^ n → ArB b (2 ^ n) f h → Ev lf m 49 [.slice (some ⟨b, 0, none⟩) (2 ^ n) c, J x] h = some (J (ce f x (2 ^ n) (2 ^ n)), h)
  inf : ∀ f n i b c h, n ≤ 6 → i < n → ArB b (2 ^ n) f h → Ev lf m 35 [.slice (some ⟨b, 0, none⟩) (2 ^ n) c, J i] h = some (.tuple #[I (part f i (2 ^ n)), J 0], h)
  inn : ∀ (n : Nat) (x : Int) a c h, n ≤ 6 → (x < 0 ∨ (n : Int) ≤ x) → Ev lf m 35 [.slice a (2 ^ n) c, I x] h = some (.tuple #[J 0, J 1], h)
  rinf : ∀ f n i b c h, n ≤ 6 → i < n → ArB b (2 ^ n) f h → Ev lf m 50 [.slice (some ⟨b, 0, none⟩) (2 ^ n) c, J i] h = some (I (part f i (2 ^ n)), h)
  ln : ∀ n h, n ≤ 6 → Ev lf m 33 [J (2 ^ n)] h = some (J n, h)
  aw : ∀ h, Ev lf m 21 [] h = some (.bool true, h)
theorem upS (k : Nat) : UpS 100000 (k + 60) where
  hlf := by decide
  tb := fun x n kind h hn => table_of x n hn kind 100000 (k + 59) (by decide) h
  bt := fun z => by
    obtain ⟨j, hj, e⟩ := bits_of z
    exact ⟨j, hj, fun h => e 100000 (k + 59) h⟩
  b5 := fun z => by
    obtain ⟨j, hj, e⟩ := bits5_of z
    exact ⟨j, hj, fun h => e 100000 (k + 59) h⟩
  se := fun f n b c h hn A => sens_of f n hn 100000 (k + 59) (by decide) b c h A (fun a c h => check_of n a c 100000 (k + 58) h fun h => size_of n hn (k + 48) h)
    (sensitive_of f n hn 100000 (k + 56) (by decide) (fun b h => number_of b (k + 46) h) b c h A) (fun v a c h A => max_of v 64 (by decide) (by decide) 100000 (k + 58) (by decide) a c h A)
  rse := fun f n b c h hn A => rsens_of f n hn 100000 (k + 59) (by decide) b c h A
  bks := fun f n b c h hn A => Blocks_of f n hn 100000 (k + 59) (by decide) (fun a c h => check_of n a c 100000 (k + 58) h fun h => size_of n hn (k + 48) h) b c h A
    fun x h hx A => blocks_of f n hn 100000 (k + 56) (by decide) b c x hx h A
      (fun b n c zs h hn hz H => sort_of 100000 (k + 57) b c n hn zs h (blen_of n hn (k + 47) h) fun lim => pdq_of 100000 (k + 56) b c n lim (by decide) hn zs h (by
        subst hz
        exact insert_of 100000 (k + 55) b c (by decide) zs (by omega) h H fun a b h => less_of 100000 (k + 53) a b h)) fun h => sort_nil (k + 38) h
  rbl := fun f n b c h hn A => rblocks_of f n hn 100000 (k + 59) (by decide) b c h A
  ib := fun f n b c x h hn hx A w la lc hw L => isb_of f n hn 100000 (k + 59) (by decide) (fun a c h => check_of n a c 100000 (k + 58) h fun h => size_of n hn (k + 48) h) b c x hx h A w hw la lc L
  rib := fun f n b c x h hn hx A w la lc hw L => risb_of f n hn 100000 (k + 59) (by decide) (fun a c h => rck_of n 100000 (k + 58) (fun h => rbits_of n hn (k + 38) h) a c h) b c x hx h A w hw la lc L
  ibn := fun n x a c l h hn hx => isb_no n 100000 (k + 59) x (fun a c h => check_of n a c 100000 (k + 58) h fun h => size_of n hn (k + 48) h) a c l h hx
  ribn := fun n x a c l h hn hx => risb_no n 100000 (k + 59) x (fun a c h => rck_of n 100000 (k + 58) (fun h => rbits_of n hn (k + 38) h) a c h) a c l h hx
  ces := fun f n b c h hn A => certs_of f n hn 100000 (k + 59) (by decide) (fun a c h => check_of n a c 100000 (k + 58) h fun h => size_of n hn (k + 48) h) (fun z h hz => count_of hz (k + 39) h) b c h
    fun x hx => cert_of f n hn 100000 (k + 58) (by decide) (fun z h hz => count_of hz (k + 38) h) b c x hx h A
  rces := fun f n b c h hn A => rcerts_of f n hn 100000 (k + 59) (by decide) (fun z h hz => ones_of hz (k + 39) h) b c h
    fun x hx => rcert_of f n hn 100000 (k + 58) (by decide) (fun z h hz => ones_of hz (k + 38) h) b c x hx h A
  ce1 := fun f n b c x h hn hx A => Cert_of f n x 100000 (k + 59) (fun a c h => check_of n a c 100000 (k + 58) h fun h => size_of n hn (k + 48) h) b c h hx
    (cert_of f n hn 100000 (k + 58) (by decide) (fun z h hz => count_of hz (k + 38) h) b c x hx h A)
  cen := fun n x a c h hn hx => Cert_no n 100000 (k + 59) x (fun a c h => check_of n a c 100000 (k + 58) h fun h => size_of n hn (k + 48) h) a c h hx
  rce := fun f n b c x h hn hx A => rcert_of f n hn 100000 (k + 59) (by decide) (fun z h hz => ones_of hz (k + 39) h) b c x hx h A
  inf := fun f n i b c h hn hi A => influence_of f n i 100000 (k + 59) hi (lower n (k + 39) hn) b c h A
  inn := fun n x a c h hn hx => infl_no n 100000 (k + 59) x (fun a c h => check_of n a c 100000 (k + 58) h fun h => size_of n hn (k + 48) h) (fun h => size_of n hn (k + 49) h) a c h hx
  rinf := fun f n i b c h hn hi A => rinfl_of f n i 100000 (k + 59) hn (by decide) hi b c h A
  ln := fun n h hn => rbits_of n hn (k + 40) h
  aw := fun h => rfl
end Go.Proofs.Ytnfboopfpkaeaaa
/- SeesP: contracts of functions. -/
namespace Go.Proofs.Ytnfboopfpkaeaaa
open Go Go.Eng Nim
set_option maxRecDepth 100000
set_option maxHeartbeats 8000000
abbrev andU (x y : Int) : Int := IntKind.wrap .u64 ((BitVec.ofInt 64 x &&& BitVec.ofInt 64 y).toNat : Int)
theorem s9 (x a0 a1 a2 a3 : Int) (w : List Int) (hw : w.length < 2 ^ 63) (va : Option Addr) (vc lf m : Nat) (U : UpS lf m) (h : Hp) (V : Rds h (.slice va w.length vc) (w.map I)) (cut : (va = none ∧ w = [] ∧ vc = 0) ∨ ∃ a, va = some a ∧ ∀ K, K ≤ w.length → ∃ y, sliceOp Try.prog 50 (.slice (some a) w.length vc) none (some (J K)) none = some y ∧ Rds h y ((w.take K).map I)) : ∃ H, Ev lf (m + 1) 9 [.int .u64 x, .agg #[I a0, I a1, I a2, I a3], .slice va w.length vc] h = some (.bool true, H) := by
  obtain ⟨n, hn, bt⟩ := U.bt a0
  have hlf := U.hlf
  have hp64 : 2 ^ n ≤ 64 := Nat.pow_le_pow_right (n := 2) (by decide) hn
  have hp0 : 1 ≤ 2 ^ n := Nat.one_le_two_pow
  have hw2 : ∀ i, i < n → IntKind.i64.wrap (2 * Int.ofNat (2 ^ i)) = Int.ofNat (2 ^ (i + 1)) := fun i hi => by
    have h7 : 2 * Int.ofNat (2 ^ i) = Int.ofNat (2 ^ (i + 1)) := by rw [Nat.pow_succ, Nat.mul_comm]; rfl
    have h6 : 2 ^ (i + 1) ≤ 2 ^ 6 := Nat.pow_le_pow_right (by decide) (by omega)
    rw [h7, wrap_nat (by omega)]
  refine fn_val ?_
  have X0 : h.Ext (h.new (.cells [I a0, I a1, I a2, I a3] 75 false)) := Hp.Ext.new _ _
  have gx := get_new h (.cells [I a0, I a1, I a2, I a3] 75 false)
  have nx : (h.new (.cells [I a0, I a1, I a2, I a3] 75 false)).next = h.next + 1 := rfl
  generalize hX : h.new (.cells [I a0, I a1, I a2, I a3] 75 false) = X at X0 gx nx
  refine ok_go 2 ?_
  refine sy_load 0 (r := loadT Try.prog (h.new (.cells [I a0, I a1, I a2, I a3] 75 false)) 3 (ptr h.next 0)) (h' := (h.new (.cells [I a0, I a1, I a2, I a3] 75 false))) (by kernel_rfl) (by rw [hX]; exact load1 agI gx rfl) ?_
  rw [hX]
  refine ok_go 0 ?_
  refine sy_call 0 (by kernel_rfl) (bt X) ?_
  refine ok_go 1 ?_
  refine sy_load 0 (r := loadT Try.prog X 3 (ptr h.next 1)) (h' := X) (by kernel_rfl) (load1 agI gx rfl) ?_
  obtain ⟨_, h1, e1, b, f, rfl, hb, X1, A1⟩ := U.tb x n a1 X hn
  refine ok_go 0 ?_
  refine sy_call 0 (by kernel_rfl) e1 ?_
  refine ok_go 0 ?_
  refine sy_need 0 [3] [⟨some (Eng.undef, X), Eng.undef, X⟩] (by kernel_rfl) ⟨rfl, trivial⟩ ?_
  obtain ⟨_, h2, e2, rfl, X2⟩ := U.se f n b (2 * 2 ^ n) h1 hn A1
  obtain ⟨_, h3, e3, at0, l, ys, rfl, hat0, K, hall, X3⟩ := U.bks f n b (2 * 2 ^ n) h2 hn (A1.ext X2)
  have A3 := A1.ext (X2.trans X3)
  have e4 := U.ces f n b (2 * 2 ^ n) h3 hn A3
  have e5 := U.rse f n b (2 * 2 ^ n) h3 hn A3
  have hbt := bk_true hp64 hp0 K
  have hmz := bk_most hp64 hp0 hat0 K hall
  obtain ⟨la, lc, rfl⟩ := K.rd.shape
  rw [List.length_map] at e3 K
  have h6 := K.six
  have e6 := U.rib f n b (2 * 2 ^ n) at0 h3 hn hat0 A3 ys la lc (by omega) K.rd
  have e7 := U.ib f n b (2 * 2 ^ n) at0 h3 hn hat0 A3 ys la lc (by omega) K.rd
  rw [hbt] at e6 e7
  obtain ⟨_, h8, e8, rfl, X8⟩ := U.rbl f n b (2 * 2 ^ n) h3 hn A3
  have e9 := U.rces f n b (2 * 2 ^ n) h8 hn (A3.ext X8)
  rw [hmz] at e8
  generalize mz (fun x => sp f x n) (2 ^ n) = S1 at e2 e5
  generalize mz (cp f (2 ^ n)) (2 ^ n) = C1 at e4 e9
  refine ok_go 0 ?_
  refine sy_call 0 (by kernel_rfl) e2 ?_
  refine ok_go 2 ?_
  refine sy_call 0 (by kernel_rfl) e3 ?_
  refine ok_go 3 ?_
  refine sy_call 0 (by kernel_rfl) e4 ?_
  refine ok_go 14 ?_
  refine sy_call 0 (by kernel_rfl) e5 ?_
  refine ok_go 3 ?_
  refine sy_no 0 (b := S1 != S1) (by kernel_rfl) (bne_self_eq_false _) ?_
  refine ok_go 3 ?_
  refine sy_call 0 (by kernel_rfl) e6 ?_
  refine ok_go 7 ?_
  refine sy_call 0 (by kernel_rfl) e7 ?_
  refine ok_go 8 ?_
  refine sy_call 0 (by kernel_rfl) e8 ?_
  refine ok_go 3 ?_
  refine sy_no 0 (b := Int.ofNat ys.length != Int.ofNat ys.length) (by kernel_rfl) (bne_self_eq_false _) ?_
  refine ok_go 2 ?_
  refine sy_call 0 (by kernel_rfl) e9 ?_
  refine ok_go 3 ?_
  refine sy_no 0 (b := C1 != C1) (by kernel_rfl) (bne_self_eq_false _) ?_
  have Z8 : h.Ext h8 := X0.trans (X1.trans (X2.trans (X3.trans X8)))
  have XX8 : X.Ext h8 := X1.trans (X2.trans (X3.trans X8))
  have hK : (if (8 : Int) < Int.ofNat w.length then 8 else Int.ofNat w.length) = Int.ofNat (min w.length 8) := by
    show (if (8 : Int) < (w.length : Int) then 8 else (w.length : Int)) = ((min w.length 8 : Nat) : Int)
    split <;> omega
  have hK8 : min w.length 8 ≤ 8 := Nat.min_le_right _ _
  have hKw : min w.length 8 ≤ w.length := Nat.min_le_left _ _
  refine ok_go 2 ?_
  refine sy_any 0 (p := fun y => Rds h8 y ((w.take (min w.length 8)).map I)) (h' := h8) ?_ ?_
  · rcases cut with ⟨rfl, rfl, rfl⟩ | ⟨a, rfl, cut⟩
    · exact ⟨.slice none 0 0, .inl ⟨⟨_, rfl⟩, rfl⟩, by kernel_rfl⟩
    · obtain ⟨y, ey, Y⟩ := cut _ hKw
      refine ⟨y, Y.ext Z8, (by kernel_rfl : _ = (sliceOp Try.prog 50 (.slice (some a) w.length vc) none (some (.int .i64 (if (8 : Int) < Int.ofNat w.length then 8 else Int.ofNat w.length))) none).map (·, h8)).trans ?_⟩
      rw [hK, ey]
      rfl
  generalize min w.length 8 = KK at hK8 hKw
  intro y Y
  obtain ⟨ya, yc, rfl⟩ := Y.shape
  obtain ⟨l0, h10, e10, O10, X10, N10⟩ := appendNew slI Y (by rw [List.all_eq_true]; intro v hv; obtain ⟨z, _, rfl⟩ := List.mem_map.1 hv; rfl) (by rw [List.length_map, List.length_take]; omega)
  refine ok_go 0 ?_
  refine sy_call 0 (by kernel_rfl) e10 ?_
  have gx10 : h10.get h.next = some (.cells [I a0, I a1, I a2, I a3] 75 false) := (XX8.trans X10).at_ (by omega) gx
  obtain ⟨oa, oc, rfl⟩ := O10.shape
  have hown : (w.take KK).length ≤ 64 := by rw [List.length_take]; omega
  have R10 := O10.rd
  rw [List.length_map] at R10 ⊢
  generalize w.take KK = w0 at hown R10
  refine ok_go 1 ?_
  refine sy_load 0 (r := loadT Try.prog h10 3 (ptr h.next 2)) (h' := h10) (by kernel_rfl) (load1 agI gx10 rfl) ?_
  refine ok_go 1 ?_
  refine sy_load 0 (r := loadT Try.prog h10 3 (ptr h.next 3)) (h' := h10) (by kernel_rfl) (load1 agI gx10 rfl) ?_
  have A10 : ArB b (2 ^ n) f h10 := A3.ext (X8.trans X10)
  refine ok_go 0 ?_
  refine sy_loop 0 lf h10 (α := Nat × Int × Int × Option Addr × Nat × List Int) (fun s => [(2, .slice va w.length vc), (7, .slice (some ⟨b, 0, none⟩) (2 ^ n) (2 * 2 ^ n)), (15, .slice s.2.2.2.1 s.2.2.2.2.2.length s.2.2.2.2.1), (16, I s.2.1), (17, I s.2.2.1), (18, J s.1)])
    (fun s g => s.1 ≤ 2 ∧ h10.Ext g ∧ s.2.2.2.2.2.length ≤ 64 ∧ Rds g (.slice s.2.2.2.1 s.2.2.2.2.2.length s.2.2.2.2.1) (s.2.2.2.2.2.map I)) (fun s _ => 2 - s.1) (0, a2, a3, oa, oc, w0) (by kernel_rfl) (by kernel_rfl) ⟨by kernel_rfl, by kernel_rfl, by kernel_rfl, by kernel_rfl, by kernel_rfl, by kernel_rfl, trivial⟩ (show 2 - 0 < lf by omega) ⟨Nat.zero_le _, Hp.Ext.refl _, hown, R10⟩ ?_
  clear e10 gx10 O10 Y N10 e9 e8 e7 e6 e5 e4 e3 e2 e1 hX hall K hbt R10
  rintro m1 ⟨k, at', bit, wa, wc, ww⟩ f1 g ⟨hk, Xg, hwl, W⟩ ih
  dsimp only at hk hwl W
  refine ok_go 1 ?_
  refine sy_test 0 (decide (Int.ofNat k < 2)) (by kernel_rfl) ?_ ?_
  · intro hlt
    have hlt : k < 2 := ok_nat (b := 2) hlt
    have Ag := A10.ext Xg
    obtain ⟨kb, hkb, b5⟩ := U.b5 bit
    have hat : (at' < 0 ∨ (2 ^ n : Nat) ≤ at') ∨ ∃ y, y < 2 ^ n ∧ at' = Int.ofNat y := by
      by_cases h1 : at' < 0
      · exact .inl (.inl h1)
      · by_cases h2 : ((2 ^ n : Nat) : Int) ≤ at'
        · exact .inl (.inr h2)
        · exact .inr ⟨at'.toNat, by omega, by simp; omega⟩
    have hbt : (bit < 0 ∨ (n : Int) ≤ bit) ∨ ∃ z, z < n ∧ bit = Int.ofNat z := by
      by_cases h1 : bit < 0
      · exact .inl (.inl h1)
      · by_cases h2 : (n : Int) ≤ bit
        · exact .inl (.inr h2)
        · exact .inr ⟨bit.toNat, by omega, by simp; omega⟩
    obtain ⟨β, q1, q2⟩ : ∃ β, Ev lf m 45 [.slice (some ⟨b, 0, none⟩) (2 ^ n) (2 * 2 ^ n), I at', .slice wa ww.length wc] g = some (.bool β, g) ∧ Ev lf m 44 [.slice (some ⟨b, 0, none⟩) (2 ^ n) (2 * 2 ^ n), I at', .slice wa ww.length wc] g = some (.bool β, g) := by
      rcases hat with h1 | ⟨y, hy, rfl⟩
      · exact ⟨false, U.ibn n at' _ _ _ g hn h1, U.ribn n at' _ _ _ g hn h1⟩
      · exact ⟨_, U.ib f n b (2 * 2 ^ n) y g hn hy Ag ww wa wc hwl W, U.rib f n b (2 * 2 ^ n) y g hn hy Ag ww wa wc hwl W⟩
    refine ok_go 0 ?_
    refine sy_call 0 (by kernel_rfl) q1 ?_
    refine ok_go 0 ?_
    refine sy_call 0 (by kernel_rfl) q2 ?_
    refine ok_go 1 ?_
    refine sy_no 0 (b := β != β) (by kernel_rfl) (bne_self_eq_false _) ?_
    rcases hat with hat | ⟨y, hy, rfl⟩
    · refine ok_go 0 ?_
      refine sy_call 0 (by kernel_rfl) (U.cen n at' (some ⟨b, 0, none⟩) (2 * 2 ^ n) g hn hat) ?_
      refine ok_go 3 ?_
      refine sy_test 0 (decide (at' < 0)) (by kernel_rfl) ?_ ?_
      · intro h1
        rcases hbt with hbt | ⟨z, hz, rfl⟩
        · refine ok_go 11 ?_
          refine sy_call 0 (by kernel_rfl) (U.inn n bit (some ⟨b, 0, none⟩) (2 * 2 ^ n) g hn hbt) ?_
          refine ok_go 3 ?_
          refine sy_test 0 (decide (bit < 0)) (by kernel_rfl) ?_ ?_
          · intro h2
            refine ok_go 15 ?_
            refine sy_any 0 (p := fun yy => yy = .int .u64 ((IntKind.wrap .u64 at').tmod (Int.ofNat (2 ^ n)))) (h' := g) ⟨_, rfl, ?_⟩ ?_
            · rcases (by omega : n = 0 ∨ n = 1 ∨ n = 2 ∨ n = 3 ∨ n = 4 ∨ n = 5 ∨ n = 6) with rfl | rfl | rfl | rfl | rfl | rfl | rfl <;> kernel_rfl
            rintro _ rfl
            refine ok_go 1 ?_
            refine sy_call 0 (by kernel_rfl) (b5 g) ?_
            refine ok_go 0 ?_
            refine sy_loop 0 lf g (α := Nat × Value × List Int) (fun s => [(2, .slice va w.length vc), (7, .slice (some ⟨b, 0, none⟩) (2 ^ n) (2 * 2 ^ n)), (15, s.2.1), (16, I (IntKind.i64.wrap ((IntKind.wrap .u64 at').tmod (Int.ofNat (2 ^ n))))), (17, J kb), (18, J k), (23, J (2 ^ s.1))])
              (fun s q => s.1 ≤ n ∧ g.Ext q ∧ s.2.2.length ≤ s.1 ∧ OpenSl q 3 s.2.1 (s.2.2.map I) ∧ ∀ j, j < g.next → ∀ p q, s.2.1 ≠ .slice (some ⟨j, 0, none⟩) p q) (fun s _ => n - s.1) (0, .slice none 0 0, []) (by kernel_rfl) (by kernel_rfl) ⟨by kernel_rfl, by kernel_rfl, by kernel_rfl, by kernel_rfl, by kernel_rfl, by kernel_rfl, by kernel_rfl, trivial⟩ (show n - 0 < lf by omega) ⟨Nat.zero_le _, Hp.Ext.refl _, Nat.le_refl _, .inl ⟨rfl, rfl⟩, fun j _ p q hc => by cases hc⟩ ?_
            rintro m2 ⟨i, l, zs⟩ f2 q ⟨hi, Xq, hzl, O, hne⟩ ih2
            dsimp only at hi hzl O hne
            refine ok_go 2 ?_
            refine sy_test 0 (decide (Int.ofNat (2 ^ i) < Int.ofNat (2 ^ n))) (by kernel_rfl) ?_ ?_
            · intro hl2
              have hl2 : i < n := (Nat.pow_lt_pow_iff_right (by decide)).1 (ok_nat hl2)
              have hw := hw2 i hl2
              refine ok_go 5 ?_
              refine sy_test 0 (andU (IntKind.wrap .u64 (Int.ofNat w.length)) (IntKind.wrap .u64 (Int.ofNat (2 ^ i))) == 0) (by kernel_rfl) ?_ ?_
              · intro _
                obtain ⟨l', q', e3, O', y1, y2, y3⟩ := append1 slI O (v := J (2 ^ i)) rfl (by simp; omega)
                have nq := Xq.next
                refine ok_go 1 ?_
                refine sy_call 0 (r := appendOp Try.prog (q.new (.cells [J (2 ^ i)] 3 false)) 50 l (.slice (some ⟨q.next, 0, none⟩) 1 2)) (v := l') (h' := q') (by kernel_rfl) e3 ?_
                refine ok_go 1 ?_
                exact sy_next 0 _ q' (by kernel_rfl) (by kernel_rfl) (ih2 (i + 1, l', zs ++ [Int.ofNat (2 ^ i)]) _ q' ⟨hl2, ⟨by omega, fun j hj => (y2 j (by omega) (hne j hj)).trans (Xq.get j hj)⟩, by show (zs ++ [Int.ofNat (2 ^ i)]).length ≤ i + 1; rw [List.length_append, List.length_singleton]; omega, by show OpenSl q' 3 l' ((zs ++ [Int.ofNat (2 ^ i)]).map I); rw [List.map_append]; exact O', fun j hj => y3 j (by omega)⟩ (show n - (i + 1) < n - i by omega) ⟨by kernel_rfl, by kernel_rfl, by kernel_rfl, by kernel_rfl, by kernel_rfl, by kernel_rfl, (by kernel_rfl : _ = Value.int .i64 (IntKind.i64.wrap (2 * Int.ofNat (2 ^ i)))).trans (by rw [hw]), trivial⟩)
              · intro _
                refine ok_go 1 ?_
                exact sy_next 0 _ q (by kernel_rfl) (by kernel_rfl) (ih2 (i + 1, l, zs) _ q ⟨hl2, Xq, by show zs.length ≤ i + 1; omega, O, hne⟩ (show n - (i + 1) < n - i by omega) ⟨by kernel_rfl, by kernel_rfl, by kernel_rfl, by kernel_rfl, by kernel_rfl, by kernel_rfl, (by kernel_rfl : _ = Value.int .i64 (IntKind.i64.wrap (2 * Int.ofNat (2 ^ i)))).trans (by rw [hw]), trivial⟩)
            · intro hl2
              obtain ⟨oa', oc', rfl⟩ := O.shape
              rw [List.length_map]
              refine ok_go 1 ?_
              exact sy_next 0 _ q (by kernel_rfl) (by kernel_rfl) (ih (k + 1, IntKind.i64.wrap ((IntKind.wrap .u64 at').tmod (Int.ofNat (2 ^ n))), Int.ofNat kb, oa', oc', zs) _ q ⟨hlt, Xg.trans Xq, by show zs.length ≤ 64; omega, by have := O.rd; rwa [List.length_map] at this⟩ (show 2 - (k + 1) < 2 - k by omega) ⟨by kernel_rfl, by kernel_rfl, by kernel_rfl, by kernel_rfl, by kernel_rfl, (by kernel_rfl : _ = Value.int .i64 (IntKind.wrap .i64 (Int.ofNat (k + 1)))).trans (by rw [wrap_nat (by omega)]), trivial⟩)
          · intro h2
            have h2 := of_decide_eq_false h2
            refine ok_go 4 ?_
            refine sy_call 0 (by kernel_rfl) (U.ln n g hn) ?_
            refine ok_go 3 ?_
            refine sy_yes 0 (b := decide (bit ≥ Int.ofNat n)) (by kernel_rfl) (decide_eq_true (hbt.resolve_left h2)) ?_
            refine ok_go 9 ?_
            refine sy_any 0 (p := fun yy => yy = .int .u64 ((IntKind.wrap .u64 at').tmod (Int.ofNat (2 ^ n)))) (h' := g) ⟨_, rfl, ?_⟩ ?_
            · rcases (by omega : n = 0 ∨ n = 1 ∨ n = 2 ∨ n = 3 ∨ n = 4 ∨ n = 5 ∨ n = 6) with rfl | rfl | rfl | rfl | rfl | rfl | rfl <;> kernel_rfl
            rintro _ rfl
            refine ok_go 1 ?_
            refine sy_call 0 (by kernel_rfl) (b5 g) ?_
            refine ok_go 0 ?_
            refine sy_loop 0 lf g (α := Nat × Value × List Int) (fun s => [(2, .slice va w.length vc), (7, .slice (some ⟨b, 0, none⟩) (2 ^ n) (2 * 2 ^ n)), (15, s.2.1), (16, I (IntKind.i64.wrap ((IntKind.wrap .u64 at').tmod (Int.ofNat (2 ^ n))))), (17, J kb), (18, J k), (23, J (2 ^ s.1))])
              (fun s q => s.1 ≤ n ∧ g.Ext q ∧ s.2.2.length ≤ s.1 ∧ OpenSl q 3 s.2.1 (s.2.2.map I) ∧ ∀ j, j < g.next → ∀ p q, s.2.1 ≠ .slice (some ⟨j, 0, none⟩) p q) (fun s _ => n - s.1) (0, .slice none 0 0, []) (by kernel_rfl) (by kernel_rfl) ⟨by kernel_rfl, by kernel_rfl, by kernel_rfl, by kernel_rfl, by kernel_rfl, by kernel_rfl, by kernel_rfl, trivial⟩ (show n - 0 < lf by omega) ⟨Nat.zero_le _, Hp.Ext.refl _, Nat.le_refl _, .inl ⟨rfl, rfl⟩, fun j _ p q hc => by cases hc⟩ ?_
            rintro m2 ⟨i, l, zs⟩ f2 q ⟨hi, Xq, hzl, O, hne⟩ ih2
            dsimp only at hi hzl O hne
            refine ok_go 2 ?_
            refine sy_test 0 (decide (Int.ofNat (2 ^ i) < Int.ofNat (2 ^ n))) (by kernel_rfl) ?_ ?_
            · intro hl2
              have hl2 : i < n := (Nat.pow_lt_pow_iff_right (by decide)).1 (ok_nat hl2)
              have hw := hw2 i hl2
              refine ok_go 5 ?_
              refine sy_test 0 (andU (IntKind.wrap .u64 (Int.ofNat w.length)) (IntKind.wrap .u64 (Int.ofNat (2 ^ i))) == 0) (by kernel_rfl) ?_ ?_
              · intro _
                obtain ⟨l', q', e3, O', y1, y2, y3⟩ := append1 slI O (v := J (2 ^ i)) rfl (by simp; omega)
                have nq := Xq.next
                refine ok_go 1 ?_
                refine sy_call 0 (r := appendOp Try.prog (q.new (.cells [J (2 ^ i)] 3 false)) 50 l (.slice (some ⟨q.next, 0, none⟩) 1 2)) (v := l') (h' := q') (by kernel_rfl) e3 ?_
                refine ok_go 1 ?_
                exact sy_next 0 _ q' (by kernel_rfl) (by kernel_rfl) (ih2 (i + 1, l', zs ++ [Int.ofNat (2 ^ i)]) _ q' ⟨hl2, ⟨by omega, fun j hj => (y2 j (by omega) (hne j hj)).trans (Xq.get j hj)⟩, by show (zs ++ [Int.ofNat (2 ^ i)]).length ≤ i + 1; rw [List.length_append, List.length_singleton]; omega, by show OpenSl q' 3 l' ((zs ++ [Int.ofNat (2 ^ i)]).map I); rw [List.map_append]; exact O', fun j hj => y3 j (by omega)⟩ (show n - (i + 1) < n - i by omega) ⟨by kernel_rfl, by kernel_rfl, by kernel_rfl, by kernel_rfl, by kernel_rfl, by kernel_rfl, (by kernel_rfl : _ = Value.int .i64 (IntKind.i64.wrap (2 * Int.ofNat (2 ^ i)))).trans (by rw [hw]), trivial⟩)
              · intro _
                refine ok_go 1 ?_
                exact sy_next 0 _ q (by kernel_rfl) (by kernel_rfl) (ih2 (i + 1, l, zs) _ q ⟨hl2, Xq, by show zs.length ≤ i + 1; omega, O, hne⟩ (show n - (i + 1) < n - i by omega) ⟨by kernel_rfl, by kernel_rfl, by kernel_rfl, by kernel_rfl, by kernel_rfl, by kernel_rfl, (by kernel_rfl : _ = Value.int .i64 (IntKind.i64.wrap (2 * Int.ofNat (2 ^ i)))).trans (by rw [hw]), trivial⟩)
            · intro hl2
              obtain ⟨oa', oc', rfl⟩ := O.shape
              rw [List.length_map]
              refine ok_go 1 ?_
              exact sy_next 0 _ q (by kernel_rfl) (by kernel_rfl) (ih (k + 1, IntKind.i64.wrap ((IntKind.wrap .u64 at').tmod (Int.ofNat (2 ^ n))), Int.ofNat kb, oa', oc', zs) _ q ⟨hlt, Xg.trans Xq, by show zs.length ≤ 64; omega, by have := O.rd; rwa [List.length_map] at this⟩ (show 2 - (k + 1) < 2 - k by omega) ⟨by kernel_rfl, by kernel_rfl, by kernel_rfl, by kernel_rfl, by kernel_rfl, (by kernel_rfl : _ = Value.int .i64 (IntKind.wrap .i64 (Int.ofNat (k + 1)))).trans (by rw [wrap_nat (by omega)]), trivial⟩)
        · refine ok_go 11 ?_
          refine sy_call 0 (by kernel_rfl) (U.inf f n z b (2 * 2 ^ n) g hn hz Ag) ?_
          refine ok_go 8 ?_
          refine sy_call 0 (by kernel_rfl) (U.ln n g hn) ?_
          refine ok_go 3 ?_
          refine sy_no 0 (b := decide (Int.ofNat z ≥ Int.ofNat n)) (by kernel_rfl) (decide_eq_false (show ¬ (n : Int) ≤ (z : Int) by omega)) ?_
          refine ok_go 5 ?_
          refine sy_call 0 (by kernel_rfl) (U.rinf f n z b (2 * 2 ^ n) g hn hz Ag) ?_
          refine ok_go 3 ?_
          refine sy_no 0 (b := part f z (2 ^ n) != part f z (2 ^ n)) (by kernel_rfl) (bne_self_eq_false _) ?_
          refine ok_go 3 ?_
          refine sy_any 0 (p := fun yy => yy = .int .u64 ((IntKind.wrap .u64 at').tmod (Int.ofNat (2 ^ n)))) (h' := g) ⟨_, rfl, ?_⟩ ?_
          · rcases (by omega : n = 0 ∨ n = 1 ∨ n = 2 ∨ n = 3 ∨ n = 4 ∨ n = 5 ∨ n = 6) with rfl | rfl | rfl | rfl | rfl | rfl | rfl <;> kernel_rfl
          rintro _ rfl
          refine ok_go 1 ?_
          refine sy_call 0 (by kernel_rfl) (b5 g) ?_
          refine ok_go 0 ?_
          refine sy_loop 0 lf g (α := Nat × Value × List Int) (fun s => [(2, .slice va w.length vc), (7, .slice (some ⟨b, 0, none⟩) (2 ^ n) (2 * 2 ^ n)), (15, s.2.1), (16, I (IntKind.i64.wrap ((IntKind.wrap .u64 at').tmod (Int.ofNat (2 ^ n))))), (17, J kb), (18, J k), (23, J (2 ^ s.1))])
            (fun s q => s.1 ≤ n ∧ g.Ext q ∧ s.2.2.length ≤ s.1 ∧ OpenSl q 3 s.2.1 (s.2.2.map I) ∧ ∀ j, j < g.next → ∀ p q, s.2.1 ≠ .slice (some ⟨j, 0, none⟩) p q) (fun s _ => n - s.1) (0, .slice none 0 0, []) (by kernel_rfl) (by kernel_rfl) ⟨by kernel_rfl, by kernel_rfl, by kernel_rfl, by kernel_rfl, by kernel_rfl, by kernel_rfl, by kernel_rfl, trivial⟩ (show n - 0 < lf by omega) ⟨Nat.zero_le _, Hp.Ext.refl _, Nat.le_refl _, .inl ⟨rfl, rfl⟩, fun j _ p q hc => by cases hc⟩ ?_
          rintro m2 ⟨i, l, zs⟩ f2 q ⟨hi, Xq, hzl, O, hne⟩ ih2
          dsimp only at hi hzl O hne
          refine ok_go 2 ?_
          refine sy_test 0 (decide (Int.ofNat (2 ^ i) < Int.ofNat (2 ^ n))) (by kernel_rfl) ?_ ?_
          · intro hl2
            have hl2 : i < n := (Nat.pow_lt_pow_iff_right (by decide)).1 (ok_nat hl2)
            have hw := hw2 i hl2
            refine ok_go 5 ?_
            refine sy_test 0 (andU (IntKind.wrap .u64 (Int.ofNat w.length)) (IntKind.wrap .u64 (Int.ofNat (2 ^ i))) == 0) (by kernel_rfl) ?_ ?_
            · intro _
              obtain ⟨l', q', e3, O', y1, y2, y3⟩ := append1 slI O (v := J (2 ^ i)) rfl (by simp; omega)
              have nq := Xq.next
              refine ok_go 1 ?_
              refine sy_call 0 (r := appendOp Try.prog (q.new (.cells [J (2 ^ i)] 3 false)) 50 l (.slice (some ⟨q.next, 0, none⟩) 1 2)) (v := l') (h' := q') (by kernel_rfl) e3 ?_
              refine ok_go 1 ?_
              exact sy_next 0 _ q' (by kernel_rfl) (by kernel_rfl) (ih2 (i + 1, l', zs ++ [Int.ofNat (2 ^ i)]) _ q' ⟨hl2, ⟨by omega, fun j hj => (y2 j (by omega) (hne j hj)).trans (Xq.get j hj)⟩, by show (zs ++ [Int.ofNat (2 ^ i)]).length ≤ i + 1; rw [List.length_append, List.length_singleton]; omega, by show OpenSl q' 3 l' ((zs ++ [Int.ofNat (2 ^ i)]).map I); rw [List.map_append]; exact O', fun j hj => y3 j (by omega)⟩ (show n - (i + 1) < n - i by omega) ⟨by kernel_rfl, by kernel_rfl, by kernel_rfl, by kernel_rfl, by kernel_rfl, by kernel_rfl, (by kernel_rfl : _ = Value.int .i64 (IntKind.i64.wrap (2 * Int.ofNat (2 ^ i)))).trans (by rw [hw]), trivial⟩)
            · intro _
              refine ok_go 1 ?_
              exact sy_next 0 _ q (by kernel_rfl) (by kernel_rfl) (ih2 (i + 1, l, zs) _ q ⟨hl2, Xq, by show zs.length ≤ i + 1; omega, O, hne⟩ (show n - (i + 1) < n - i by omega) ⟨by kernel_rfl, by kernel_rfl, by kernel_rfl, by kernel_rfl, by kernel_rfl, by kernel_rfl, (by kernel_rfl : _ = Value.int .i64 (IntKind.i64.wrap (2 * Int.ofNat (2 ^ i)))).trans (by rw [hw]), trivial⟩)
          · intro hl2
            obtain ⟨oa', oc', rfl⟩ := O.shape
            rw [List.length_map]
            refine ok_go 1 ?_
            exact sy_next 0 _ q (by kernel_rfl) (by kernel_rfl) (ih (k + 1, IntKind.i64.wrap ((IntKind.wrap .u64 at').tmod (Int.ofNat (2 ^ n))), Int.ofNat kb, oa', oc', zs) _ q ⟨hlt, Xg.trans Xq, by show zs.length ≤ 64; omega, by have := O.rd; rwa [List.length_map] at this⟩ (show 2 - (k + 1) < 2 - k by omega) ⟨by kernel_rfl, by kernel_rfl, by kernel_rfl, by kernel_rfl, by kernel_rfl, (by kernel_rfl : _ = Value.int .i64 (IntKind.wrap .i64 (Int.ofNat (k + 1)))).trans (by rw [wrap_nat (by omega)]), trivial⟩)
      · intro h1
        have h1 := of_decide_eq_false h1
        refine ok_go 6 ?_
        refine sy_yes 0 (b := decide (at' ≥ Int.ofNat (2 ^ n))) (by kernel_rfl) (decide_eq_true (hat.resolve_left h1)) ?_
        rcases hbt with hbt | ⟨z, hz, rfl⟩
        · refine ok_go 6 ?_
          refine sy_call 0 (by kernel_rfl) (U.inn n bit (some ⟨b, 0, none⟩) (2 * 2 ^ n) g hn hbt) ?_
          refine ok_go 3 ?_
          refine sy_test 0 (decide (bit < 0)) (by kernel_rfl) ?_ ?_
          · intro h2
            refine ok_go 15 ?_
            refine sy_any 0 (p := fun yy => yy = .int .u64 ((IntKind.wrap .u64 at').tmod (Int.ofNat (2 ^ n)))) (h' := g) ⟨_, rfl, ?_⟩ ?_
            · rcases (by omega : n = 0 ∨ n = 1 ∨ n = 2 ∨ n = 3 ∨ n = 4 ∨ n = 5 ∨ n = 6) with rfl | rfl | rfl | rfl | rfl | rfl | rfl <;> kernel_rfl
            rintro _ rfl
            refine ok_go 1 ?_
            refine sy_call 0 (by kernel_rfl) (b5 g) ?_
            refine ok_go 0 ?_
            refine sy_loop 0 lf g (α := Nat × Value × List Int) (fun s => [(2, .slice va w.length vc), (7, .slice (some ⟨b, 0, none⟩) (2 ^ n) (2 * 2 ^ n)), (15, s.2.1), (16, I (IntKind.i64.wrap ((IntKind.wrap .u64 at').tmod (Int.ofNat (2 ^ n))))), (17, J kb), (18, J k), (23, J (2 ^ s.1))])
              (fun s q => s.1 ≤ n ∧ g.Ext q ∧ s.2.2.length ≤ s.1 ∧ OpenSl q 3 s.2.1 (s.2.2.map I) ∧ ∀ j, j < g.next → ∀ p q, s.2.1 ≠ .slice (some ⟨j, 0, none⟩) p q) (fun s _ => n - s.1) (0, .slice none 0 0, []) (by kernel_rfl) (by kernel_rfl) ⟨by kernel_rfl, by kernel_rfl, by kernel_rfl, by kernel_rfl, by kernel_rfl, by kernel_rfl, by kernel_rfl, trivial⟩ (show n - 0 < lf by omega) ⟨Nat.zero_le _, Hp.Ext.refl _, Nat.le_refl _, .inl ⟨rfl, rfl⟩, fun j _ p q hc => by cases hc⟩ ?_
            rintro m2 ⟨i, l, zs⟩ f2 q ⟨hi, Xq, hzl, O, hne⟩ ih2
            dsimp only at hi hzl O hne
            refine ok_go 2 ?_
            refine sy_test 0 (decide (Int.ofNat (2 ^ i) < Int.ofNat (2 ^ n))) (by kernel_rfl) ?_ ?_
            · intro hl2
              have hl2 : i < n := (Nat.pow_lt_pow_iff_right (by decide)).1 (ok_nat hl2)
              have hw := hw2 i hl2
              refine ok_go 5 ?_
              refine sy_test 0 (andU (IntKind.wrap .u64 (Int.ofNat w.length)) (IntKind.wrap .u64 (Int.ofNat (2 ^ i))) == 0) (by kernel_rfl) ?_ ?_
              · intro _
                obtain ⟨l', q', e3, O', y1, y2, y3⟩ := append1 slI O (v := J (2 ^ i)) rfl (by simp; omega)
                have nq := Xq.next
                refine ok_go 1 ?_
                refine sy_call 0 (r := appendOp Try.prog (q.new (.cells [J (2 ^ i)] 3 false)) 50 l (.slice (some ⟨q.next, 0, none⟩) 1 2)) (v := l') (h' := q') (by kernel_rfl) e3 ?_
                refine ok_go 1 ?_
                exact sy_next 0 _ q' (by kernel_rfl) (by kernel_rfl) (ih2 (i + 1, l', zs ++ [Int.ofNat (2 ^ i)]) _ q' ⟨hl2, ⟨by omega, fun j hj => (y2 j (by omega) (hne j hj)).trans (Xq.get j hj)⟩, by show (zs ++ [Int.ofNat (2 ^ i)]).length ≤ i + 1; rw [List.length_append, List.length_singleton]; omega, by show OpenSl q' 3 l' ((zs ++ [Int.ofNat (2 ^ i)]).map I); rw [List.map_append]; exact O', fun j hj => y3 j (by omega)⟩ (show n - (i + 1) < n - i by omega) ⟨by kernel_rfl, by kernel_rfl, by kernel_rfl, by kernel_rfl, by kernel_rfl, by kernel_rfl, (by kernel_rfl : _ = Value.int .i64 (IntKind.i64.wrap (2 * Int.ofNat (2 ^ i)))).trans (by rw [hw]), trivial⟩)
              · intro _
                refine ok_go 1 ?_
                exact sy_next 0 _ q (by kernel_rfl) (by kernel_rfl) (ih2 (i + 1, l, zs) _ q ⟨hl2, Xq, by show zs.length ≤ i + 1; omega, O, hne⟩ (show n - (i + 1) < n - i by omega) ⟨by kernel_rfl, by kernel_rfl, by kernel_rfl, by kernel_rfl, by kernel_rfl, by kernel_rfl, (by kernel_rfl : _ = Value.int .i64 (IntKind.i64.wrap (2 * Int.ofNat (2 ^ i)))).trans (by rw [hw]), trivial⟩)
            · intro hl2
              obtain ⟨oa', oc', rfl⟩ := O.shape
              rw [List.length_map]
              refine ok_go 1 ?_
              exact sy_next 0 _ q (by kernel_rfl) (by kernel_rfl) (ih (k + 1, IntKind.i64.wrap ((IntKind.wrap .u64 at').tmod (Int.ofNat (2 ^ n))), Int.ofNat kb, oa', oc', zs) _ q ⟨hlt, Xg.trans Xq, by show zs.length ≤ 64; omega, by have := O.rd; rwa [List.length_map] at this⟩ (show 2 - (k + 1) < 2 - k by omega) ⟨by kernel_rfl, by kernel_rfl, by kernel_rfl, by kernel_rfl, by kernel_rfl, (by kernel_rfl : _ = Value.int .i64 (IntKind.wrap .i64 (Int.ofNat (k + 1)))).trans (by rw [wrap_nat (by omega)]), trivial⟩)
          · intro h2
            have h2 := of_decide_eq_false h2
            refine ok_go 4 ?_
            refine sy_call 0 (by kernel_rfl) (U.ln n g hn) ?_
            refine ok_go 3 ?_
            refine sy_yes 0 (b := decide (bit ≥ Int.ofNat n)) (by kernel_rfl) (decide_eq_true (hbt.resolve_left h2)) ?_
            refine ok_go 9 ?_
            refine sy_any 0 (p := fun yy => yy = .int .u64 ((IntKind.wrap .u64 at').tmod (Int.ofNat (2 ^ n)))) (h' := g) ⟨_, rfl, ?_⟩ ?_
            · rcases (by omega : n = 0 ∨ n = 1 ∨ n = 2 ∨ n = 3 ∨ n = 4 ∨ n = 5 ∨ n = 6) with rfl | rfl | rfl | rfl | rfl | rfl | rfl <;> kernel_rfl
            rintro _ rfl
            refine ok_go 1 ?_
            refine sy_call 0 (by kernel_rfl) (b5 g) ?_
            refine ok_go 0 ?_
            refine sy_loop 0 lf g (α := Nat × Value × List Int) (fun s => [(2, .slice va w.length vc), (7, .slice (some ⟨b, 0, none⟩) (2 ^ n) (2 * 2 ^ n)), (15, s.2.1), (16, I (IntKind.i64.wrap ((IntKind.wrap .u64 at').tmod (Int.ofNat (2 ^ n))))), (17, J kb), (18, J k), (23, J (2 ^ s.1))])
              (fun s q => s.1 ≤ n ∧ g.Ext q ∧ s.2.2.length ≤ s.1 ∧ OpenSl q 3 s.2.1 (s.2.2.map I) ∧ ∀ j, j < g.next → ∀ p q, s.2.1 ≠ .slice (some ⟨j, 0, none⟩) p q) (fun s _ => n - s.1) (0, .slice none 0 0, []) (by kernel_rfl) (by kernel_rfl) ⟨by kernel_rfl, by kernel_rfl, by kernel_rfl, by kernel_rfl, by kernel_rfl, by kernel_rfl, by kernel_rfl, trivial⟩ (show n - 0 < lf by omega) ⟨Nat.zero_le _, Hp.Ext.refl _, Nat.le_refl _, .inl ⟨rfl, rfl⟩, fun j _ p q hc => by cases hc⟩ ?_
            rintro m2 ⟨i, l, zs⟩ f2 q ⟨hi, Xq, hzl, O, hne⟩ ih2
            dsimp only at hi hzl O hne
            refine ok_go 2 ?_
            refine sy_test 0 (decide (Int.ofNat (2 ^ i) < Int.ofNat (2 ^ n))) (by kernel_rfl) ?_ ?_
            · intro hl2
              have hl2 : i < n := (Nat.pow_lt_pow_iff_right (by decide)).1 (ok_nat hl2)
              have hw := hw2 i hl2
              refine ok_go 5 ?_
              refine sy_test 0 (andU (IntKind.wrap .u64 (Int.ofNat w.length)) (IntKind.wrap .u64 (Int.ofNat (2 ^ i))) == 0) (by kernel_rfl) ?_ ?_
              · intro _
                obtain ⟨l', q', e3, O', y1, y2, y3⟩ := append1 slI O (v := J (2 ^ i)) rfl (by simp; omega)
                have nq := Xq.next
                refine ok_go 1 ?_
                refine sy_call 0 (r := appendOp Try.prog (q.new (.cells [J (2 ^ i)] 3 false)) 50 l (.slice (some ⟨q.next, 0, none⟩) 1 2)) (v := l') (h' := q') (by kernel_rfl) e3 ?_
                refine ok_go 1 ?_
                exact sy_next 0 _ q' (by kernel_rfl) (by kernel_rfl) (ih2 (i + 1, l', zs ++ [Int.ofNat (2 ^ i)]) _ q' ⟨hl2, ⟨by omega, fun j hj => (y2 j (by omega) (hne j hj)).trans (Xq.get j hj)⟩, by show (zs ++ [Int.ofNat (2 ^ i)]).length ≤ i + 1; rw [List.length_append, List.length_singleton]; omega, by show OpenSl q' 3 l' ((zs ++ [Int.ofNat (2 ^ i)]).map I); rw [List.map_append]; exact O', fun j hj => y3 j (by omega)⟩ (show n - (i + 1) < n - i by omega) ⟨by kernel_rfl, by kernel_rfl, by kernel_rfl, by kernel_rfl, by kernel_rfl, by kernel_rfl, (by kernel_rfl : _ = Value.int .i64 (IntKind.i64.wrap (2 * Int.ofNat (2 ^ i)))).trans (by rw [hw]), trivial⟩)
              · intro _
                refine ok_go 1 ?_
                exact sy_next 0 _ q (by kernel_rfl) (by kernel_rfl) (ih2 (i + 1, l, zs) _ q ⟨hl2, Xq, by show zs.length ≤ i + 1; omega, O, hne⟩ (show n - (i + 1) < n - i by omega) ⟨by kernel_rfl, by kernel_rfl, by kernel_rfl, by kernel_rfl, by kernel_rfl, by kernel_rfl, (by kernel_rfl : _ = Value.int .i64 (IntKind.i64.wrap (2 * Int.ofNat (2 ^ i)))).trans (by rw [hw]), trivial⟩)
            · intro hl2
              obtain ⟨oa', oc', rfl⟩ := O.shape
              rw [List.length_map]
              refine ok_go 1 ?_
              exact sy_next 0 _ q (by kernel_rfl) (by kernel_rfl) (ih (k + 1, IntKind.i64.wrap ((IntKind.wrap .u64 at').tmod (Int.ofNat (2 ^ n))), Int.ofNat kb, oa', oc', zs) _ q ⟨hlt, Xg.trans Xq, by show zs.length ≤ 64; omega, by have := O.rd; rwa [List.length_map] at this⟩ (show 2 - (k + 1) < 2 - k by omega) ⟨by kernel_rfl, by kernel_rfl, by kernel_rfl, by kernel_rfl, by kernel_rfl, (by kernel_rfl : _ = Value.int .i64 (IntKind.wrap .i64 (Int.ofNat (k + 1)))).trans (by rw [wrap_nat (by omega)]), trivial⟩)
        · refine ok_go 6 ?_
          refine sy_call 0 (by kernel_rfl) (U.inf f n z b (2 * 2 ^ n) g hn hz Ag) ?_
          refine ok_go 8 ?_
          refine sy_call 0 (by kernel_rfl) (U.ln n g hn) ?_
          refine ok_go 3 ?_
          refine sy_no 0 (b := decide (Int.ofNat z ≥ Int.ofNat n)) (by kernel_rfl) (decide_eq_false (show ¬ (n : Int) ≤ (z : Int) by omega)) ?_
          refine ok_go 5 ?_
          refine sy_call 0 (by kernel_rfl) (U.rinf f n z b (2 * 2 ^ n) g hn hz Ag) ?_
          refine ok_go 3 ?_
          refine sy_no 0 (b := part f z (2 ^ n) != part f z (2 ^ n)) (by kernel_rfl) (bne_self_eq_false _) ?_
          refine ok_go 3 ?_
          refine sy_any 0 (p := fun yy => yy = .int .u64 ((IntKind.wrap .u64 at').tmod (Int.ofNat (2 ^ n)))) (h' := g) ⟨_, rfl, ?_⟩ ?_
          · rcases (by omega : n = 0 ∨ n = 1 ∨ n = 2 ∨ n = 3 ∨ n = 4 ∨ n = 5 ∨ n = 6) with rfl | rfl | rfl | rfl | rfl | rfl | rfl <;> kernel_rfl
          rintro _ rfl
          refine ok_go 1 ?_
          refine sy_call 0 (by kernel_rfl) (b5 g) ?_
          refine ok_go 0 ?_
          refine sy_loop 0 lf g (α := Nat × Value × List Int) (fun s => [(2, .slice va w.length vc), (7, .slice (some ⟨b, 0, none⟩) (2 ^ n) (2 * 2 ^ n)), (15, s.2.1), (16, I (IntKind.i64.wrap ((IntKind.wrap .u64 at').tmod (Int.ofNat (2 ^ n))))), (17, J kb), (18, J k), (23, J (2 ^ s.1))])
            (fun s q => s.1 ≤ n ∧ g.Ext q ∧ s.2.2.length ≤ s.1 ∧ OpenSl q 3 s.2.1 (s.2.2.map I) ∧ ∀ j, j < g.next → ∀ p q, s.2.1 ≠ .slice (some ⟨j, 0, none⟩) p q) (fun s _ => n - s.1) (0, .slice none 0 0, []) (by kernel_rfl) (by kernel_rfl) ⟨by kernel_rfl, by kernel_rfl, by kernel_rfl, by kernel_rfl, by kernel_rfl, by kernel_rfl, by kernel_rfl, trivial⟩ (show n - 0 < lf by omega) ⟨Nat.zero_le _, Hp.Ext.refl _, Nat.le_refl _, .inl ⟨rfl, rfl⟩, fun j _ p q hc => by cases hc⟩ ?_
          rintro m2 ⟨i, l, zs⟩ f2 q ⟨hi, Xq, hzl, O, hne⟩ ih2
          dsimp only at hi hzl O hne
          refine ok_go 2 ?_
          refine sy_test 0 (decide (Int.ofNat (2 ^ i) < Int.ofNat (2 ^ n))) (by kernel_rfl) ?_ ?_
          · intro hl2
            have hl2 : i < n := (Nat.pow_lt_pow_iff_right (by decide)).1 (ok_nat hl2)
            have hw := hw2 i hl2
            refine ok_go 5 ?_
            refine sy_test 0 (andU (IntKind.wrap .u64 (Int.ofNat w.length)) (IntKind.wrap .u64 (Int.ofNat (2 ^ i))) == 0) (by kernel_rfl) ?_ ?_
            · intro _
              obtain ⟨l', q', e3, O', y1, y2, y3⟩ := append1 slI O (v := J (2 ^ i)) rfl (by simp; omega)
              have nq := Xq.next
              refine ok_go 1 ?_
              refine sy_call 0 (r := appendOp Try.prog (q.new (.cells [J (2 ^ i)] 3 false)) 50 l (.slice (some ⟨q.next, 0, none⟩) 1 2)) (v := l') (h' := q') (by kernel_rfl) e3 ?_
              refine ok_go 1 ?_
              exact sy_next 0 _ q' (by kernel_rfl) (by kernel_rfl) (ih2 (i + 1, l', zs ++ [Int.ofNat (2 ^ i)]) _ q' ⟨hl2, ⟨by omega, fun j hj => (y2 j (by omega) (hne j hj)).trans (Xq.get j hj)⟩, by show (zs ++ [Int.ofNat (2 ^ i)]).length ≤ i + 1; rw [List.length_append, List.length_singleton]; omega, by show OpenSl q' 3 l' ((zs ++ [Int.ofNat (2 ^ i)]).map I); rw [List.map_append]; exact O', fun j hj => y3 j (by omega)⟩ (show n - (i + 1) < n - i by omega) ⟨by kernel_rfl, by kernel_rfl, by kernel_rfl, by kernel_rfl, by kernel_rfl, by kernel_rfl, (by kernel_rfl : _ = Value.int .i64 (IntKind.i64.wrap (2 * Int.ofNat (2 ^ i)))).trans (by rw [hw]), trivial⟩)
            · intro _
              refine ok_go 1 ?_
              exact sy_next 0 _ q (by kernel_rfl) (by kernel_rfl) (ih2 (i + 1, l, zs) _ q ⟨hl2, Xq, by show zs.length ≤ i + 1; omega, O, hne⟩ (show n - (i + 1) < n - i by omega) ⟨by kernel_rfl, by kernel_rfl, by kernel_rfl, by kernel_rfl, by kernel_rfl, by kernel_rfl, (by kernel_rfl : _ = Value.int .i64 (IntKind.i64.wrap (2 * Int.ofNat (2 ^ i)))).trans (by rw [hw]), trivial⟩)
          · intro hl2
            obtain ⟨oa', oc', rfl⟩ := O.shape
            rw [List.length_map]
            refine ok_go 1 ?_
            exact sy_next 0 _ q (by kernel_rfl) (by kernel_rfl) (ih (k + 1, IntKind.i64.wrap ((IntKind.wrap .u64 at').tmod (Int.ofNat (2 ^ n))), Int.ofNat kb, oa', oc', zs) _ q ⟨hlt, Xg.trans Xq, by show zs.length ≤ 64; omega, by have := O.rd; rwa [List.length_map] at this⟩ (show 2 - (k + 1) < 2 - k by omega) ⟨by kernel_rfl, by kernel_rfl, by kernel_rfl, by kernel_rfl, by kernel_rfl, (by kernel_rfl : _ = Value.int .i64 (IntKind.wrap .i64 (Int.ofNat (k + 1)))).trans (by rw [wrap_nat (by omega)]), trivial⟩)
    · refine ok_go 0 ?_
      refine sy_call 0 (by kernel_rfl) (U.ce1 f n b (2 * 2 ^ n) y g hn hy Ag) ?_
      refine ok_go 10 ?_
      refine sy_no 0 (b := decide (Int.ofNat y ≥ Int.ofNat (2 ^ n))) (by kernel_rfl) (decide_eq_false (show ¬ ((2 ^ n : Nat) : Int) ≤ (y : Int) by omega)) ?_
      refine ok_go 5 ?_
      refine sy_call 0 (by kernel_rfl) (U.rce f n b (2 * 2 ^ n) y g hn hy Ag) ?_
      refine ok_go 3 ?_
      refine sy_no 0 (b := Int.ofNat (ce f y (2 ^ n) (2 ^ n)) != Int.ofNat (ce f y (2 ^ n) (2 ^ n))) (by kernel_rfl) (bne_self_eq_false _) ?_
      rcases hbt with hbt | ⟨z, hz, rfl⟩
      · refine ok_go 0 ?_
        refine sy_call 0 (by kernel_rfl) (U.inn n bit (some ⟨b, 0, none⟩) (2 * 2 ^ n) g hn hbt) ?_
        refine ok_go 3 ?_
        refine sy_test 0 (decide (bit < 0)) (by kernel_rfl) ?_ ?_
        · intro h2
          refine ok_go 15 ?_
          refine sy_any 0 (p := fun yy => yy = .int .u64 ((IntKind.wrap .u64 (Int.ofNat y)).tmod (Int.ofNat (2 ^ n)))) (h' := g) ⟨_, rfl, ?_⟩ ?_
          · rcases (by omega : n = 0 ∨ n = 1 ∨ n = 2 ∨ n = 3 ∨ n = 4 ∨ n = 5 ∨ n = 6) with rfl | rfl | rfl | rfl | rfl | rfl | rfl <;> kernel_rfl
          rintro _ rfl
          refine ok_go 1 ?_
          refine sy_call 0 (by kernel_rfl) (b5 g) ?_
          refine ok_go 0 ?_
          refine sy_loop 0 lf g (α := Nat × Value × List Int) (fun s => [(2, .slice va w.length vc), (7, .slice (some ⟨b, 0, none⟩) (2 ^ n) (2 * 2 ^ n)), (15, s.2.1), (16, I (IntKind.i64.wrap ((IntKind.wrap .u64 (Int.ofNat y)).tmod (Int.ofNat (2 ^ n))))), (17, J kb), (18, J k), (23, J (2 ^ s.1))])
            (fun s q => s.1 ≤ n ∧ g.Ext q ∧ s.2.2.length ≤ s.1 ∧ OpenSl q 3 s.2.1 (s.2.2.map I) ∧ ∀ j, j < g.next → ∀ p q, s.2.1 ≠ .slice (some ⟨j, 0, none⟩) p q) (fun s _ => n - s.1) (0, .slice none 0 0, []) (by kernel_rfl) (by kernel_rfl) ⟨by kernel_rfl, by kernel_rfl, by kernel_rfl, by kernel_rfl, by kernel_rfl, by kernel_rfl, by kernel_rfl, trivial⟩ (show n - 0 < lf by omega) ⟨Nat.zero_le _, Hp.Ext.refl _, Nat.le_refl _, .inl ⟨rfl, rfl⟩, fun j _ p q hc => by cases hc⟩ ?_
          rintro m2 ⟨i, l, zs⟩ f2 q ⟨hi, Xq, hzl, O, hne⟩ ih2
          dsimp only at hi hzl O hne
          refine ok_go 2 ?_
          refine sy_test 0 (decide (Int.ofNat (2 ^ i) < Int.ofNat (2 ^ n))) (by kernel_rfl) ?_ ?_
          · intro hl2
            have hl2 : i < n := (Nat.pow_lt_pow_iff_right (by decide)).1 (ok_nat hl2)
            have hw := hw2 i hl2
            refine ok_go 5 ?_
            refine sy_test 0 (andU (IntKind.wrap .u64 (Int.ofNat w.length)) (IntKind.wrap .u64 (Int.ofNat (2 ^ i))) == 0) (by kernel_rfl) ?_ ?_
            · intro _
              obtain ⟨l', q', e3, O', y1, y2, y3⟩ := append1 slI O (v := J (2 ^ i)) rfl (by simp; omega)
              have nq := Xq.next
              refine ok_go 1 ?_
              refine sy_call 0 (r := appendOp Try.prog (q.new (.cells [J (2 ^ i)] 3 false)) 50 l (.slice (some ⟨q.next, 0, none⟩) 1 2)) (v := l') (h' := q') (by kernel_rfl) e3 ?_
              refine ok_go 1 ?_
              exact sy_next 0 _ q' (by kernel_rfl) (by kernel_rfl) (ih2 (i + 1, l', zs ++ [Int.ofNat (2 ^ i)]) _ q' ⟨hl2, ⟨by omega, fun j hj => (y2 j (by omega) (hne j hj)).trans (Xq.get j hj)⟩, by show (zs ++ [Int.ofNat (2 ^ i)]).length ≤ i + 1; rw [List.length_append, List.length_singleton]; omega, by show OpenSl q' 3 l' ((zs ++ [Int.ofNat (2 ^ i)]).map I); rw [List.map_append]; exact O', fun j hj => y3 j (by omega)⟩ (show n - (i + 1) < n - i by omega) ⟨by kernel_rfl, by kernel_rfl, by kernel_rfl, by kernel_rfl, by kernel_rfl, by kernel_rfl, (by kernel_rfl : _ = Value.int .i64 (IntKind.i64.wrap (2 * Int.ofNat (2 ^ i)))).trans (by rw [hw]), trivial⟩)
            · intro _
              refine ok_go 1 ?_
              exact sy_next 0 _ q (by kernel_rfl) (by kernel_rfl) (ih2 (i + 1, l, zs) _ q ⟨hl2, Xq, by show zs.length ≤ i + 1; omega, O, hne⟩ (show n - (i + 1) < n - i by omega) ⟨by kernel_rfl, by kernel_rfl, by kernel_rfl, by kernel_rfl, by kernel_rfl, by kernel_rfl, (by kernel_rfl : _ = Value.int .i64 (IntKind.i64.wrap (2 * Int.ofNat (2 ^ i)))).trans (by rw [hw]), trivial⟩)
          · intro hl2
            obtain ⟨oa', oc', rfl⟩ := O.shape
            rw [List.length_map]
            refine ok_go 1 ?_
            exact sy_next 0 _ q (by kernel_rfl) (by kernel_rfl) (ih (k + 1, IntKind.i64.wrap ((IntKind.wrap .u64 (Int.ofNat y)).tmod (Int.ofNat (2 ^ n))), Int.ofNat kb, oa', oc', zs) _ q ⟨hlt, Xg.trans Xq, by show zs.length ≤ 64; omega, by have := O.rd; rwa [List.length_map] at this⟩ (show 2 - (k + 1) < 2 - k by omega) ⟨by kernel_rfl, by kernel_rfl, by kernel_rfl, by kernel_rfl, by kernel_rfl, (by kernel_rfl : _ = Value.int .i64 (IntKind.wrap .i64 (Int.ofNat (k + 1)))).trans (by rw [wrap_nat (by omega)]), trivial⟩)
        · intro h2
          have h2 := of_decide_eq_false h2
          refine ok_go 4 ?_
          refine sy_call 0 (by kernel_rfl) (U.ln n g hn) ?_
          refine ok_go 3 ?_
          refine sy_yes 0 (b := decide (bit ≥ Int.ofNat n)) (by kernel_rfl) (decide_eq_true (hbt.resolve_left h2)) ?_
          refine ok_go 9 ?_
          refine sy_any 0 (p := fun yy => yy = .int .u64 ((IntKind.wrap .u64 (Int.ofNat y)).tmod (Int.ofNat (2 ^ n)))) (h' := g) ⟨_, rfl, ?_⟩ ?_
          · rcases (by omega : n = 0 ∨ n = 1 ∨ n = 2 ∨ n = 3 ∨ n = 4 ∨ n = 5 ∨ n = 6) with rfl | rfl | rfl | rfl | rfl | rfl | rfl <;> kernel_rfl
          rintro _ rfl
          refine ok_go 1 ?_
          refine sy_call 0 (by kernel_rfl) (b5 g) ?_
          refine ok_go 0 ?_
          refine sy_loop 0 lf g (α := Nat × Value × List Int) (fun s => [(2, .slice va w.length vc), (7, .slice (some ⟨b, 0, none⟩) (2 ^ n) (2 * 2 ^ n)), (15, s.2.1), (16, I (IntKind.i64.wrap ((IntKind.wrap .u64 (Int.ofNat y)).tmod (Int.ofNat (2 ^ n))))), (17, J kb), (18, J k), (23, J (2 ^ s.1))])
            (fun s q => s.1 ≤ n ∧ g.Ext q ∧ s.2.2.length ≤ s.1 ∧ OpenSl q 3 s.2.1 (s.2.2.map I) ∧ ∀ j, j < g.next → ∀ p q, s.2.1 ≠ .slice (some ⟨j, 0, none⟩) p q) (fun s _ => n - s.1) (0, .slice none 0 0, []) (by kernel_rfl) (by kernel_rfl) ⟨by kernel_rfl, by kernel_rfl, by kernel_rfl, by kernel_rfl, by kernel_rfl, by kernel_rfl, by kernel_rfl, trivial⟩ (show n - 0 < lf by omega) ⟨Nat.zero_le _, Hp.Ext.refl _, Nat.le_refl _, .inl ⟨rfl, rfl⟩, fun j _ p q hc => by cases hc⟩ ?_
          rintro m2 ⟨i, l, zs⟩ f2 q ⟨hi, Xq, hzl, O, hne⟩ ih2
          dsimp only at hi hzl O hne
          refine ok_go 2 ?_
          refine sy_test 0 (decide (Int.ofNat (2 ^ i) < Int.ofNat (2 ^ n))) (by kernel_rfl) ?_ ?_
          · intro hl2
            have hl2 : i < n := (Nat.pow_lt_pow_iff_right (by decide)).1 (ok_nat hl2)
            have hw := hw2 i hl2
            refine ok_go 5 ?_
            refine sy_test 0 (andU (IntKind.wrap .u64 (Int.ofNat w.length)) (IntKind.wrap .u64 (Int.ofNat (2 ^ i))) == 0) (by kernel_rfl) ?_ ?_
            · intro _
              obtain ⟨l', q', e3, O', y1, y2, y3⟩ := append1 slI O (v := J (2 ^ i)) rfl (by simp; omega)
              have nq := Xq.next
              refine ok_go 1 ?_
              refine sy_call 0 (r := appendOp Try.prog (q.new (.cells [J (2 ^ i)] 3 false)) 50 l (.slice (some ⟨q.next, 0, none⟩) 1 2)) (v := l') (h' := q') (by kernel_rfl) e3 ?_
              refine ok_go 1 ?_
              exact sy_next 0 _ q' (by kernel_rfl) (by kernel_rfl) (ih2 (i + 1, l', zs ++ [Int.ofNat (2 ^ i)]) _ q' ⟨hl2, ⟨by omega, fun j hj => (y2 j (by omega) (hne j hj)).trans (Xq.get j hj)⟩, by show (zs ++ [Int.ofNat (2 ^ i)]).length ≤ i + 1; rw [List.length_append, List.length_singleton]; omega, by show OpenSl q' 3 l' ((zs ++ [Int.ofNat (2 ^ i)]).map I); rw [List.map_append]; exact O', fun j hj => y3 j (by omega)⟩ (show n - (i + 1) < n - i by omega) ⟨by kernel_rfl, by kernel_rfl, by kernel_rfl, by kernel_rfl, by kernel_rfl, by kernel_rfl, (by kernel_rfl : _ = Value.int .i64 (IntKind.i64.wrap (2 * Int.ofNat (2 ^ i)))).trans (by rw [hw]), trivial⟩)
            · intro _
              refine ok_go 1 ?_
              exact sy_next 0 _ q (by kernel_rfl) (by kernel_rfl) (ih2 (i + 1, l, zs) _ q ⟨hl2, Xq, by show zs.length ≤ i + 1; omega, O, hne⟩ (show n - (i + 1) < n - i by omega) ⟨by kernel_rfl, by kernel_rfl, by kernel_rfl, by kernel_rfl, by kernel_rfl, by kernel_rfl, (by kernel_rfl : _ = Value.int .i64 (IntKind.i64.wrap (2 * Int.ofNat (2 ^ i)))).trans (by rw [hw]), trivial⟩)
          · intro hl2
            obtain ⟨oa', oc', rfl⟩ := O.shape
            rw [List.length_map]
            refine ok_go 1 ?_
            exact sy_next 0 _ q (by kernel_rfl) (by kernel_rfl) (ih (k + 1, IntKind.i64.wrap ((IntKind.wrap .u64 (Int.ofNat y)).tmod (Int.ofNat (2 ^ n))), Int.ofNat kb, oa', oc', zs) _ q ⟨hlt, Xg.trans Xq, by show zs.length ≤ 64; omega, by have := O.rd; rwa [List.length_map] at this⟩ (show 2 - (k + 1) < 2 - k by omega) ⟨by kernel_rfl, by kernel_rfl, by kernel_rfl, by kernel_rfl, by kernel_rfl, (by kernel_rfl : _ = Value.int .i64 (IntKind.wrap .i64 (Int.ofNat (k + 1)))).trans (by rw [wrap_nat (by omega)]), trivial⟩)
      · refine ok_go 0 ?_
        refine sy_call 0 (by kernel_rfl) (U.inf f n z b (2 * 2 ^ n) g hn hz Ag) ?_
        refine ok_go 8 ?_
        refine sy_call 0 (by kernel_rfl) (U.ln n g hn) ?_
        refine ok_go 3 ?_
        refine sy_no 0 (b := decide (Int.ofNat z ≥ Int.ofNat n)) (by kernel_rfl) (decide_eq_false (show ¬ (n : Int) ≤ (z : Int) by omega)) ?_
        refine ok_go 5 ?_
        refine sy_call 0 (by kernel_rfl) (U.rinf f n z b (2 * 2 ^ n) g hn hz Ag) ?_
        refine ok_go 3 ?_
        refine sy_no 0 (b := part f z (2 ^ n) != part f z (2 ^ n)) (by kernel_rfl) (bne_self_eq_false _) ?_
        refine ok_go 3 ?_
        refine sy_any 0 (p := fun yy => yy = .int .u64 ((IntKind.wrap .u64 (Int.ofNat y)).tmod (Int.ofNat (2 ^ n)))) (h' := g) ⟨_, rfl, ?_⟩ ?_
        · rcases (by omega : n = 0 ∨ n = 1 ∨ n = 2 ∨ n = 3 ∨ n = 4 ∨ n = 5 ∨ n = 6) with rfl | rfl | rfl | rfl | rfl | rfl | rfl <;> kernel_rfl
        rintro _ rfl
        refine ok_go 1 ?_
        refine sy_call 0 (by kernel_rfl) (b5 g) ?_
        refine ok_go 0 ?_
        refine sy_loop 0 lf g (α := Nat × Value × List Int) (fun s => [(2, .slice va w.length vc), (7, .slice (some ⟨b, 0, none⟩) (2 ^ n) (2 * 2 ^ n)), (15, s.2.1), (16, I (IntKind.i64.wrap ((IntKind.wrap .u64 (Int.ofNat y)).tmod (Int.ofNat (2 ^ n))))), (17, J kb), (18, J k), (23, J (2 ^ s.1))])
          (fun s q => s.1 ≤ n ∧ g.Ext q ∧ s.2.2.length ≤ s.1 ∧ OpenSl q 3 s.2.1 (s.2.2.map I) ∧ ∀ j, j < g.next → ∀ p q, s.2.1 ≠ .slice (some ⟨j, 0, none⟩) p q) (fun s _ => n - s.1) (0, .slice none 0 0, []) (by kernel_rfl) (by kernel_rfl) ⟨by kernel_rfl, by kernel_rfl, by kernel_rfl, by kernel_rfl, by kernel_rfl, by kernel_rfl, by kernel_rfl, trivial⟩ (show n - 0 < lf by omega) ⟨Nat.zero_le _, Hp.Ext.refl _, Nat.le_refl _, .inl ⟨rfl, rfl⟩, fun j _ p q hc => by cases hc⟩ ?_
        rintro m2 ⟨i, l, zs⟩ f2 q ⟨hi, Xq, hzl, O, hne⟩ ih2
        dsimp only at hi hzl O hne
        refine ok_go 2 ?_
        refine sy_test 0 (decide (Int.ofNat (2 ^ i) < Int.ofNat (2 ^ n))) (by kernel_rfl) ?_ ?_
        · intro hl2
          have hl2 : i < n := (Nat.pow_lt_pow_iff_right (by decide)).1 (ok_nat hl2)
          have hw := hw2 i hl2
          refine ok_go 5 ?_
          refine sy_test 0 (andU (IntKind.wrap .u64 (Int.ofNat w.length)) (IntKind.wrap .u64 (Int.ofNat (2 ^ i))) == 0) (by kernel_rfl) ?_ ?_
          · intro _
            obtain ⟨l', q', e3, O', y1, y2, y3⟩ := append1 slI O (v := J (2 ^ i)) rfl (by simp; omega)
            have nq := Xq.next
            refine ok_go 1 ?_
            refine sy_call 0 (r := appendOp Try.prog (q.new (.cells [J (2 ^ i)] 3 false)) 50 l (.slice (some ⟨q.next, 0, none⟩) 1 2)) (v := l') (h' := q') (by kernel_rfl) e3 ?_
            refine ok_go 1 ?_
            exact sy_next 0 _ q' (by kernel_rfl) (by kernel_rfl) (ih2 (i + 1, l', zs ++ [Int.ofNat (2 ^ i)]) _ q' ⟨hl2, ⟨by omega, fun j hj => (y2 j (by omega) (hne j hj)).trans (Xq.get j hj)⟩, by show (zs ++ [Int.ofNat (2 ^ i)]).length ≤ i + 1; rw [List.length_append, List.length_singleton]; omega, by show OpenSl q' 3 l' ((zs ++ [Int.ofNat (2 ^ i)]).map I); rw [List.map_append]; exact O', fun j hj => y3 j (by omega)⟩ (show n - (i + 1) < n - i by omega) ⟨by kernel_rfl, by kernel_rfl, by kernel_rfl, by kernel_rfl, by kernel_rfl, by kernel_rfl, (by kernel_rfl : _ = Value.int .i64 (IntKind.i64.wrap (2 * Int.ofNat (2 ^ i)))).trans (by rw [hw]), trivial⟩)
          · intro _
            refine ok_go 1 ?_
            exact sy_next 0 _ q (by kernel_rfl) (by kernel_rfl) (ih2 (i + 1, l, zs) _ q ⟨hl2, Xq, by show zs.length ≤ i + 1; omega, O, hne⟩ (show n - (i + 1) < n - i by omega) ⟨by kernel_rfl, by kernel_rfl, by kernel_rfl, by kernel_rfl, by kernel_rfl, by kernel_rfl, (by kernel_rfl : _ = Value.int .i64 (IntKind.i64.wrap (2 * Int.ofNat (2 ^ i)))).trans (by rw [hw]), trivial⟩)
        · intro hl2
          obtain ⟨oa', oc', rfl⟩ := O.shape
          rw [List.length_map]
          refine ok_go 1 ?_
          exact sy_next 0 _ q (by kernel_rfl) (by kernel_rfl) (ih (k + 1, IntKind.i64.wrap ((IntKind.wrap .u64 (Int.ofNat y)).tmod (Int.ofNat (2 ^ n))), Int.ofNat kb, oa', oc', zs) _ q ⟨hlt, Xg.trans Xq, by show zs.length ≤ 64; omega, by have := O.rd; rwa [List.length_map] at this⟩ (show 2 - (k + 1) < 2 - k by omega) ⟨by kernel_rfl, by kernel_rfl, by kernel_rfl, by kernel_rfl, by kernel_rfl, (by kernel_rfl : _ = Value.int .i64 (IntKind.wrap .i64 (Int.ofNat (k + 1)))).trans (by rw [wrap_nat (by omega)]), trivial⟩)
  · intro hlt
    refine ok_go 0 ?_
    refine sy_call 0 (by kernel_rfl) (U.aw g) ?_
    refine ok_go 0 ?_
    exact sy_done 0 (v := .bool true) (h := g) (by kernel_rfl) rfl
theorem said9 (x a0 a1 a2 a3 : Int) (w : List Int) (hw : w.length < 2 ^ 63) (va : Option Addr) (vc : Nat) (h : Hp) (V : Rds h (.slice va w.length vc) (w.map I)) (cut : (va = none ∧ w = [] ∧ vc = 0) ∨ ∃ a, va = some a ∧ ∀ K, K ≤ w.length → ∃ y, sliceOp Try.prog 50 (.slice (some a) w.length vc) none (some (J K)) none = some y ∧ Rds h y ((w.take K).map I)) : ∃ H, evInv Try.prog orc 100000 100 (.fn 9 [.int .u64 x, .agg #[I a0, I a1, I a2, I a3], .slice va w.length vc]) h = some (.bool true, H) :=
  s9 x a0 a1 a2 a3 w hw va vc 100000 99 (upS 39) h V cut
end Go.Proofs.Ytnfboopfpkaeaaa
