/- RefC: contracts of functions. -/
import Derived.Test.YtnfboopfpkaeaaaProg
import Derived.KernelRfl
import Derived.Test.YtnfboopfpkaeaaaSyB
import Derived.Test.YtnfboopfpkaeaaaRefB
import Derived.Test.YtnfboopfpkaeaaaCubeK
namespace Go.Proofs.Ytnfboopfpkaeaaa
open Go Go.Eng Nim
set_option maxRecDepth 100000
set_option maxHeartbeats 4000000
/-- What the law of the forms calls. -/
structure Upper5 (lf m : Nat) : Prop where
  U : Upper lf m
  dgr : ∀ f n b c h, n ≤ 6 → ArB b (2 ^ n) f h → ∃ x h', Ev lf m 24 [.slice (some ⟨b, 0, none⟩) (2 ^ n) c] h = some (x, h') ∧ x = .tuple #[J (dg (trn (up fun a b => b - a) n (num f)) (2 ^ n)), J 0] ∧ h.Ext h'
  rrm : ∀ f n b c h, n ≤ 6 → ArB b (2 ^ n) f h → ∃ x h', Ev lf m 27 [.slice (some ⟨b, 0, none⟩) (2 ^ n) c] h = some (x, h') ∧ ∃ b, x = .slice (some ⟨b, 0, none⟩) (2 ^ n) (2 * 2 ^ n) ∧ h.next ≤ b ∧ h.Ext h' ∧ ArB b (2 ^ n) (trn (up fun a b => a != b) n f) h'
  it : ∀ f N a ca b cb h, N ≤ 64 → ArI a N f h → ArI b N f h → Ev lf m 28 [.slice (some ⟨a, 0, none⟩) N ca, .slice (some ⟨b, 0, none⟩) N cb] h = some (.bool true, h)
  rre : ∀ f n b c h, n ≤ 6 → ArB b (2 ^ n) f h → ∃ x h', Ev lf m 29 [.slice (some ⟨b, 0, none⟩) (2 ^ n) c] h = some (x, h') ∧ ∃ b, x = .slice (some ⟨b, 0, none⟩) (2 ^ n) (2 * 2 ^ n + 1) ∧ h.next ≤ b ∧ h.Ext h' ∧ ArI b (2 ^ n) (trn (up fun a b => b - a) n (num f)) h'
  rdg : ∀ f n b c h, n ≤ 6 → ArB b (2 ^ n) f h → ∃ x h', Ev lf m 30 [.slice (some ⟨b, 0, none⟩) (2 ^ n) c] h = some (x, h') ∧ x = J (dg (trn (up fun a b => b - a) n (num f)) (2 ^ n)) ∧ h.Ext h'
  rsp : ∀ f n b c h, n ≤ 6 → ArB b (2 ^ n) f h → ∃ x h', Ev lf m 31 [.slice (some ⟨b, 0, none⟩) (2 ^ n) c] h = some (x, h') ∧ ∃ b, x = .slice (some ⟨b, 0, none⟩) (2 ^ n) (2 * 2 ^ n + 1) ∧ h.next ≤ b ∧ h.Ext h' ∧ ArI b (2 ^ n) (trn wsh n (sgn f)) h'
  ln : ∀ N, N ≤ 66 → (∃ n, n ≤ 6 ∧ N = 2 ^ n ∧ ∀ h, Ev lf m 33 [J N] h = some (J n, h)) ∨ ((∀ h, Ev lf m 33 [J N] h = some (I (-1), h)) ∧ ∀ a c h, Ev lf m 32 [.slice a N c] h = some (.tuple #[.slice none 0 0, I 70], h))
  fg : ∀ v n b c h, n ≤ 6 → ArI b (2 ^ n) v h → ∃ x h', Ev lf m 32 [.slice (some ⟨b, 0, none⟩) (2 ^ n) c] h = some (x, h') ∧ h.Ext h' ∧ ((¬ Form ((2 ^ n : Nat) : Int) n v ∧ x = .tuple #[.slice none 0 0, I 1]) ∨ (Form ((2 ^ n : Nat) : Int) n v ∧ ∃ b, x = .tuple #[.slice (some ⟨b, 0, none⟩) (2 ^ n) (2 * 2 ^ n + 1), J 0] ∧ h.next ≤ b ∧ ArB b (2 ^ n) (fun x => tv n v x == 1) h'))
  rfr : ∀ v n b c h, n ≤ 6 → ArI b (2 ^ n) v h → ∃ x h', Ev lf m 34 [.slice (some ⟨b, 0, none⟩) (2 ^ n) c] h = some (x, h') ∧ h.Ext h' ∧ ((¬ Form 1000 n v ∧ x = .tuple #[.slice none 0 0, .bool false]) ∨ (Form 1000 n v ∧ ∃ b, x = .tuple #[.slice (some ⟨b, 0, none⟩) (2 ^ n) (2 * 2 ^ n + 1), .bool true] ∧ h.next ≤ b ∧ ArB b (2 ^ n) (fun x => tv n v x == 1) h'))
/-- A list that appends alone have made. -/
def Own (l : Value) (g : Hp) : Prop := l = .slice none 0 0 ∨ ∃ b K u, 1 ≤ K ∧ K ≤ 66 ∧ l = .slice (some ⟨b, 0, none⟩) K (2 * K + 1) ∧ ArI b K u g
theorem own_cases {lf m : Nat} (U : Upper5 lf m) {l : Value} {g : Hp} (O : Own l g) :
    (∃ a K c, l = .slice a K c ∧ (∀ h, Ev lf m 33 [J K] h = some (I (-1), h)) ∧ ∀ h, Ev lf m 32 [.slice a K c] h = some (.tuple #[.slice none 0 0, I 70], h)) ∨
    ∃ b n u, n ≤ 6 ∧ l = .slice (some ⟨b, 0, none⟩) (2 ^ n) (2 * 2 ^ n + 1) ∧ ArI b (2 ^ n) u g ∧ ∀ h, Ev lf m 33 [J (2 ^ n)] h = some (J n, h) := by
  rcases O with rfl | ⟨b, K, u, h1, h2, rfl, A⟩
  · rcases U.ln 0 (by omega) with ⟨n, _, h, _⟩ | ⟨h, h'⟩
    · have := Nat.two_pow_pos n
      omega
    · exact .inl ⟨_, _, _, rfl, h, fun g => h' _ _ g⟩
  · rcases U.ln K h2 with ⟨n, hn, rfl, h⟩ | ⟨h, h'⟩
    · exact .inr ⟨b, n, u, hn, rfl, A, h⟩
    · exact .inl ⟨_, _, _, rfl, h, fun g => h' _ _ g⟩
theorem own_open {w : List Int} {K : Nat} (hK : K ≤ w.length) (h66 : K ≤ 66) {l : Value} {g : Hp} (O : OpenSl g 3 l ((w.take K).map I)) : Own l g := by
  have e : (w.take K).map I = cellsF K fun x => I (w.getD x 0) := by
    refine List.ext_getElem? fun i => ?_
    unfold cellsF
    rw [List.getElem?_map, List.getElem?_map, List.getElem?_take]
    by_cases hi : i < K
    · rw [if_pos hi, List.getElem?_range hi]
      show _ = some (I (w.getD i 0))
      rw [List.getD_eq_getElem?_getD, List.getElem?_eq_getElem (by omega)]
      rfl
    · rw [if_neg hi, List.getElem?_eq_none (by simpa using hi)]
      rfl
  rw [e] at O
  rcases Nat.eq_zero_or_pos K with rfl | h1
  · rcases O with ⟨rfl, _⟩ | ⟨i, _, hc, _⟩
    · exact .inl rfl
    · exact absurd rfl hc
  · obtain ⟨b, rfl, B⟩ := openI h1 O
    exact .inr ⟨b, K, _, h1, h66, rfl, B⟩
theorem idxU {b N c v : Nat} (hv : v < N) : indexAddrOp Try.prog 50 (.slice (some ⟨b, 0, none⟩) N c) (.int .u64 (Int.ofNat v)) = some (ptr b v) := by
  rw [idxSl uI zI hv, Nat.zero_add, Nat.mul_one]
theorem u64_nat {a : Nat} (h : a < 2 ^ 64) : IntKind.wrap .u64 (Int.ofNat a) = Int.ofNat a := by
  show (Int.ofNat a) % 2 ^ 64 = _
  exact Int.emod_eq_of_lt (Int.natCast_nonneg a) (by show (a : Int) < _; omega)
theorem sy_any {Q : Value → Hp → Prop} (n : Nat) {t : SA} {p : Value → Prop} {h' : Hp} (he : ∃ v, p v ∧ askR (goS n t) = some (v, h')) (hk : ∀ v, p v → Ok Q (askK (goS n t) v h')) : Ok Q t := by
  obtain ⟨v, hp, e⟩ := he
  exact ok_go n (ok_ask e (hk v hp))
theorem s5 (x a0 a1 : Int) (w : List Int) (hw : w.length < 2 ^ 63) (va : Option Addr) (vc lf m : Nat) (U : Upper5 lf m) (h : Hp) (V : Rds h (.slice va w.length vc) (w.map I)) (cut : (va = none ∧ w = [] ∧ vc = 0) ∨ ∃ a, va = some a ∧ ∀ K, K ≤ w.length → ∃ y, sliceOp Try.prog 50 (.slice (some a) w.length vc) none (some (J K)) none = some y ∧ Rds h y ((w.take K).map I)) : ∃ H, Ev lf (m + 1) 5 [.int .u64 x, .agg #[I a0, I a1], .slice va w.length vc] h = some (.bool true, H) := by
  obtain ⟨n, hn, bt⟩ := U.U.bt a0
  have hp64 : 2 ^ n ≤ 64 := Nat.pow_le_pow_right (n := 2) (by decide) hn
  refine fn_val ?_
  have X0 : h.Ext (h.new (.cells [I a0, I a1] 49 false)) := Hp.Ext.new _ _
  have gx := get_new h (.cells [I a0, I a1] 49 false)
  generalize hX : h.new (.cells [I a0, I a1] 49 false) = X at X0 gx
  refine ok_go 2 ?_
  refine sy_load 0 (r := loadT Try.prog (h.new (.cells [I a0, I a1] 49 false)) 3 (ptr h.next 0)) (h' := (h.new (.cells [I a0, I a1] 49 false))) (by kernel_rfl) (by rw [hX]; exact load1 agI gx rfl) ?_
  rw [hX]
  refine ok_go 0 ?_
  refine sy_call 0 (by kernel_rfl) (bt X) ?_
  refine ok_go 1 ?_
  refine sy_load 0 (r := loadT Try.prog X 3 (ptr h.next 1)) (h' := X) (by kernel_rfl) (load1 agI gx rfl) ?_
  obtain ⟨_, h1, e1, b, f, rfl, hb, X1, A1⟩ := U.U.tb x n a1 X hn
  refine ok_go 0 ?_
  refine sy_call 0 (by kernel_rfl) e1 ?_
  refine ok_go 0 ?_
  refine sy_need 0 [3] [⟨some (Eng.undef, X), Eng.undef, X⟩] (by kernel_rfl) ⟨rfl, trivial⟩ ?_
  have hlf := U.U.hlf
  obtain ⟨_, h2, e2, b2, rfl, hb2, X2, A2⟩ := U.U.rm f n b (2 * 2 ^ n) h1 hn A1
  obtain ⟨_, h3, e3, b3, rfl, hb3, X3, A3⟩ := U.U.re f n b (2 * 2 ^ n) h2 hn (A1.ext X2)
  obtain ⟨_, h4, e4, rfl, X4⟩ := U.dgr f n b (2 * 2 ^ n) h3 hn (A1.ext (X2.trans X3))
  obtain ⟨_, h5, e5, b5, rfl, hb5, X5, A5⟩ := U.U.sp f n b (2 * 2 ^ n) h4 hn (A1.ext (X2.trans (X3.trans X4)))
  have Y5 := X2.trans (X3.trans (X4.trans X5))
  obtain ⟨_, h6, e6, b6, rfl, hb6, X6, A6⟩ := U.rrm f n b (2 * 2 ^ n) h5 hn (A1.ext Y5)
  obtain ⟨_, h7, e7, b7, rfl, hb7, X7, A7⟩ := U.rre f n b (2 * 2 ^ n) h6 hn (A1.ext (Y5.trans X6))
  obtain ⟨_, h8, e8, rfl, X8⟩ := U.rdg f n b (2 * 2 ^ n) h7 hn (A1.ext (Y5.trans (X6.trans X7)))
  obtain ⟨_, h9, e9, b9, rfl, hb9, X9, A9⟩ := U.rsp f n b (2 * 2 ^ n) h8 hn (A1.ext (Y5.trans (X6.trans (X7.trans X8))))
  have q6 := U.U.bo _ (2 ^ n) b2 (2 * 2 ^ n + 1) b6 (2 * 2 ^ n) h6 hp64 (A2.ext (X3.trans (X4.trans (X5.trans X6)))) A6
  have q7 := U.it _ (2 ^ n) b3 (2 * 2 ^ n + 1) b7 (2 * 2 ^ n + 1) h7 hp64 (A3.ext (X4.trans (X5.trans (X6.trans X7)))) A7
  have q9 := U.it _ (2 ^ n) b5 (2 * 2 ^ n + 1) b9 (2 * 2 ^ n + 1) h9 hp64 (A5.ext (X6.trans (X7.trans (X8.trans X9)))) A9
  have Z3 := A3.ext (X4.trans (X5.trans (X6.trans (X7.trans (X8.trans X9)))))
  have Z9 : h.Ext h9 := X0.trans (X1.trans (Y5.trans (X6.trans (X7.trans (X8.trans X9)))))
  have V9 := V.ext Z9
  generalize trn (up fun a b : Int => b - a) n (num f) = rv at *
  refine ok_go 0 ?_
  refine sy_call 0 (by kernel_rfl) e2 ?_
  refine ok_go 2 ?_
  refine sy_call 0 (by kernel_rfl) e3 ?_
  refine ok_go 2 ?_
  refine sy_call 0 (by kernel_rfl) e4 ?_
  refine ok_go 2 ?_
  refine sy_call 0 (by kernel_rfl) e5 ?_
  refine ok_go 18 ?_
  refine sy_call 0 (by kernel_rfl) e6 ?_
  refine ok_go 1 ?_
  refine sy_call 0 (by kernel_rfl) q6 ?_
  refine ok_go 6 ?_
  refine sy_call 0 (by kernel_rfl) e7 ?_
  refine ok_go 1 ?_
  refine sy_call 0 (by kernel_rfl) q7 ?_
  refine ok_go 6 ?_
  refine sy_call 0 (by kernel_rfl) e8 ?_
  refine ok_go 3 ?_
  refine sy_no 0 (b := Int.ofNat (dg rv (2 ^ n)) != Int.ofNat (dg rv (2 ^ n))) (by kernel_rfl) (bne_self_eq_false _) ?_
  refine ok_go 2 ?_
  refine sy_call 0 (by kernel_rfl) e9 ?_
  refine ok_go 1 ?_
  refine sy_call 0 (by kernel_rfl) q9 ?_
  have hK : (if (66 : Int) < Int.ofNat w.length then 66 else Int.ofNat w.length) = Int.ofNat (min w.length 66) := by
    show (if (66 : Int) < (w.length : Int) then 66 else (w.length : Int)) = ((min w.length 66 : Nat) : Int)
    split <;> omega
  have hK66 : min w.length 66 ≤ 66 := Nat.min_le_right _ _
  have hKw : min w.length 66 ≤ w.length := Nat.min_le_left _ _
  refine ok_go 6 ?_
  refine sy_any 0 (p := fun y => Rds h9 y ((w.take (min w.length 66)).map I)) (h' := h9) ?_ ?_
  · rcases cut with ⟨rfl, rfl, rfl⟩ | ⟨a, rfl, cut⟩
    · exact ⟨.slice none 0 0, .inl ⟨⟨_, rfl⟩, rfl⟩, by kernel_rfl⟩
    · obtain ⟨y, ey, Y⟩ := cut _ hKw
      refine ⟨y, Y.ext Z9, (by kernel_rfl : _ = (sliceOp Try.prog 50 (.slice (some a) w.length vc) none (some (.int .i64 (if (66 : Int) < Int.ofNat w.length then 66 else Int.ofNat w.length))) none).map (·, h9)).trans ?_⟩
      rw [hK, ey]
      rfl
  generalize min w.length 66 = K at hK66 hKw
  intro y Y
  obtain ⟨ya, yc, rfl⟩ := Y.shape
  obtain ⟨l0, h10, e10, O10, X10, N10⟩ := appendNew slI Y (by rw [List.all_eq_true]; intro v hv; obtain ⟨z, _, rfl⟩ := List.mem_map.1 hv; rfl) (by rw [List.length_map, List.length_take]; omega)
  refine ok_go 0 ?_
  refine sy_call 0 (by kernel_rfl) e10 ?_
  refine ok_go 0 ?_
  have hbn : h.next ≤ b3 := Nat.le_trans (X0.trans X1).next (Nat.le_trans X2.next hb3)
  refine sy_loop 0 lf h10 (α := Nat × Value) (fun s => [(2, .slice va w.length vc), (10, .slice (some ⟨b3, 0, none⟩) (2 ^ n) (2 * 2 ^ n + 1)), (16, s.2), (17, J s.1)]) (fun s g => s.1 ≤ 2 ∧ h.Ext g ∧ Own s.2 g ∧ ∃ r, ArI b3 (2 ^ n) r g) (fun s _ => 2 - s.1) (0, l0) (by kernel_rfl) (by kernel_rfl) ⟨by kernel_rfl, by kernel_rfl, by kernel_rfl, by kernel_rfl, trivial⟩ (show 2 - 0 < lf by omega) ⟨Nat.zero_le _, Z9.trans X10, own_open hKw hK66 O10, _, Z3.ext X10⟩ ?_
  rintro m1 ⟨k, l⟩ f1 g ⟨hk, Xg, O, r, R⟩ ih
  dsimp only at hk O
  refine ok_go 1 ?_
  refine sy_test 0 (decide (Int.ofNat k < 2)) (by kernel_rfl) ?_ ?_
  · intro hlt
    have hlt : k < 2 := ok_nat (b := 2) hlt
    rcases own_cases U O with ⟨a, M, c, rfl, e33, e32⟩ | ⟨bb, q, u, hq, rfl, B, e33⟩
    · refine ok_go 0 ?_
      refine sy_call 0 (by kernel_rfl) (e32 g) ?_
      refine ok_go 3 ?_
      refine sy_call 0 (by kernel_rfl) (e33 g) ?_
      refine ok_go 12 ?_
      refine sy_test 0 (decide (Int.ofNat w.length > 0)) (by kernel_rfl) ?_ ?_
      · intro hl
        have hl : 0 < w.length := by have := of_decide_eq_true hl; simp at this; omega
        obtain ⟨pp, p1, p2⟩ := (V.ext (Xg)).read (P := Try.prog) (kd := .i64) uI zI agI (k := 0) (v := I (w[0])) (by rw [List.getElem?_map, List.getElem?_eq_getElem hl]; rfl)
        refine ok_go 1 ?_
        refine sy_load 0 (r := indexAddrOp Try.prog 50 (.slice va w.length vc) (J 0)) (h' := g) (by kernel_rfl) p1 ?_
        refine ok_go 1 ?_
        refine sy_load 0 (r := loadT Try.prog g 3 pp) (h' := g) (by kernel_rfl) p2 ?_
        refine ok_go 5 ?_
        refine sy_test 0 ((w[0]).tmod 3 == 0) (by kernel_rfl) ?_ ?_
        · intro _
          have hix : w.length % 2 ^ n < 2 ^ n := Nat.mod_lt _ (Nat.two_pow_pos n)
          obtain ⟨g', st, R', n', o'⟩ := (R).store hix (IntKind.wrap .i64 (r (w.length % 2 ^ n) + 1))
          refine ok_go 4 ?_
          refine sy_any 0 (p := fun y => y = .int .u64 (Int.ofNat (w.length % 2 ^ n))) (h' := g) ⟨.int .u64 ((IntKind.wrap .u64 (Int.ofNat w.length)).tmod (Int.ofNat (2 ^ n))), by rw [u64_nat (by omega)]; rfl, ?_⟩ ?_
          · rcases (by omega : n = 0 ∨ n = 1 ∨ n = 2 ∨ n = 3 ∨ n = 4 ∨ n = 5 ∨ n = 6) with rfl | rfl | rfl | rfl | rfl | rfl | rfl <;> kernel_rfl
          rintro _ rfl
          refine ok_go 0 ?_
          refine sy_load 0 (r := indexAddrOp Try.prog 50 (.slice (some ⟨b3, 0, none⟩) (2 ^ n) (2 * 2 ^ n + 1)) (.int .u64 (Int.ofNat (w.length % 2 ^ n)))) (h' := g) (by kernel_rfl) (idxU hix) ?_
          refine ok_go 0 ?_
          refine sy_load 0 (r := loadT Try.prog g 3 (ptr b3 (w.length % 2 ^ n))) (h' := g) (by kernel_rfl) ((R).read hix) ?_
          refine ok_go 1 ?_
          refine sy_load 0 (r := indexAddrOp Try.prog 50 (.slice (some ⟨b3, 0, none⟩) (2 ^ n) (2 * 2 ^ n + 1)) (.int .u64 (Int.ofNat (w.length % 2 ^ n)))) (h' := g) (by kernel_rfl) (idxU hix) ?_
          refine ok_go 0 ?_
          refine sy_store 0 (r := storeT Try.prog g 3 (ptr b3 (w.length % 2 ^ n)) (I (IntKind.wrap .i64 (r (w.length % 2 ^ n) + 1)))) (by kernel_rfl) st ?_
          refine ok_go 1 ?_
          exact sy_next 0 _ g' (by kernel_rfl) (by kernel_rfl) (ih (k + 1, .slice (some ⟨b3, 0, none⟩) (2 ^ n) (2 * 2 ^ n + 1)) _ g' ⟨hlt, ext_of (Xg) hbn n' o', .inr ⟨b3, 2 ^ n, _, Nat.one_le_two_pow, by omega, rfl, R'⟩, _, R'⟩ (show 2 - (k + 1) < 2 - k by omega) ⟨by kernel_rfl, by kernel_rfl, by kernel_rfl, (by kernel_rfl : _ = Value.int .i64 (IntKind.wrap .i64 (Int.ofNat (k + 1)))).trans (by rw [wrap_nat (by omega)]), trivial⟩)
        · intro _
          refine ok_go 1 ?_
          exact sy_next 0 _ g (by kernel_rfl) (by kernel_rfl) (ih (k + 1, .slice (some ⟨b3, 0, none⟩) (2 ^ n) (2 * 2 ^ n + 1)) _ g ⟨hlt, Xg, .inr ⟨b3, 2 ^ n, _, Nat.one_le_two_pow, by omega, rfl, R⟩, _, R⟩ (show 2 - (k + 1) < 2 - k by omega) ⟨by kernel_rfl, by kernel_rfl, by kernel_rfl, (by kernel_rfl : _ = Value.int .i64 (IntKind.wrap .i64 (Int.ofNat (k + 1)))).trans (by rw [wrap_nat (by omega)]), trivial⟩)
      · intro _
        refine ok_go 7 ?_
        exact sy_next 0 _ g (by kernel_rfl) (by kernel_rfl) (ih (k + 1, .slice (some ⟨b3, 0, none⟩) (2 ^ n) (2 * 2 ^ n + 1)) _ g ⟨hlt, Xg, .inr ⟨b3, 2 ^ n, _, Nat.one_le_two_pow, by omega, rfl, R⟩, _, R⟩ (show 2 - (k + 1) < 2 - k by omega) ⟨by kernel_rfl, by kernel_rfl, by kernel_rfl, (by kernel_rfl : _ = Value.int .i64 (IntKind.wrap .i64 (Int.ofNat (k + 1)))).trans (by rw [wrap_nat (by omega)]), trivial⟩)
    · obtain ⟨_, g1, f1e, Y1, hf⟩ := U.fg u q bb (2 * 2 ^ q + 1) g hq B
      obtain ⟨_, g2, f2e, Y2, hg⟩ := U.rfr u q bb (2 * 2 ^ q + 1) g1 hq (B.ext Y1)
      rw [form_iff q hq] at hg
      rcases hf with ⟨nf, rfl⟩ | ⟨yf, b11, rfl, hb11, B11⟩
      · rcases hg with ⟨_, rfl⟩ | ⟨yf, _⟩
        · refine ok_go 0 ?_
          refine sy_call 0 (by kernel_rfl) f1e ?_
          refine ok_go 3 ?_
          refine sy_call 0 (by kernel_rfl) (e33 g1) ?_
          refine ok_go 2 ?_
          refine sy_call 0 (by kernel_rfl) f2e ?_
          refine ok_go 14 ?_
          refine sy_test 0 (decide (Int.ofNat w.length > 0)) (by kernel_rfl) ?_ ?_
          · intro hl
            have hl : 0 < w.length := by have := of_decide_eq_true hl; simp at this; omega
            obtain ⟨pp, p1, p2⟩ := (V.ext (Xg.trans (Y1.trans Y2))).read (P := Try.prog) (kd := .i64) uI zI agI (k := 0) (v := I (w[0])) (by rw [List.getElem?_map, List.getElem?_eq_getElem hl]; rfl)
            refine ok_go 1 ?_
            refine sy_load 0 (r := indexAddrOp Try.prog 50 (.slice va w.length vc) (J 0)) (h' := g2) (by kernel_rfl) p1 ?_
            refine ok_go 1 ?_
            refine sy_load 0 (r := loadT Try.prog g2 3 pp) (h' := g2) (by kernel_rfl) p2 ?_
            refine ok_go 5 ?_
            refine sy_test 0 ((w[0]).tmod 3 == 0) (by kernel_rfl) ?_ ?_
            · intro _
              have hix : w.length % 2 ^ n < 2 ^ n := Nat.mod_lt _ (Nat.two_pow_pos n)
              obtain ⟨g', st, R', n', o'⟩ := (R.ext (Y1.trans Y2)).store hix (IntKind.wrap .i64 (r (w.length % 2 ^ n) + 1))
              refine ok_go 4 ?_
              refine sy_any 0 (p := fun y => y = .int .u64 (Int.ofNat (w.length % 2 ^ n))) (h' := g2) ⟨.int .u64 ((IntKind.wrap .u64 (Int.ofNat w.length)).tmod (Int.ofNat (2 ^ n))), by rw [u64_nat (by omega)]; rfl, ?_⟩ ?_
              · rcases (by omega : n = 0 ∨ n = 1 ∨ n = 2 ∨ n = 3 ∨ n = 4 ∨ n = 5 ∨ n = 6) with rfl | rfl | rfl | rfl | rfl | rfl | rfl <;> kernel_rfl
              rintro _ rfl
              refine ok_go 0 ?_
              refine sy_load 0 (r := indexAddrOp Try.prog 50 (.slice (some ⟨b3, 0, none⟩) (2 ^ n) (2 * 2 ^ n + 1)) (.int .u64 (Int.ofNat (w.length % 2 ^ n)))) (h' := g2) (by kernel_rfl) (idxU hix) ?_
              refine ok_go 0 ?_
              refine sy_load 0 (r := loadT Try.prog g2 3 (ptr b3 (w.length % 2 ^ n))) (h' := g2) (by kernel_rfl) ((R.ext (Y1.trans Y2)).read hix) ?_
              refine ok_go 1 ?_
              refine sy_load 0 (r := indexAddrOp Try.prog 50 (.slice (some ⟨b3, 0, none⟩) (2 ^ n) (2 * 2 ^ n + 1)) (.int .u64 (Int.ofNat (w.length % 2 ^ n)))) (h' := g2) (by kernel_rfl) (idxU hix) ?_
              refine ok_go 0 ?_
              refine sy_store 0 (r := storeT Try.prog g2 3 (ptr b3 (w.length % 2 ^ n)) (I (IntKind.wrap .i64 (r (w.length % 2 ^ n) + 1)))) (by kernel_rfl) st ?_
              refine ok_go 1 ?_
              exact sy_next 0 _ g' (by kernel_rfl) (by kernel_rfl) (ih (k + 1, .slice (some ⟨b3, 0, none⟩) (2 ^ n) (2 * 2 ^ n + 1)) _ g' ⟨hlt, ext_of (Xg.trans (Y1.trans Y2)) hbn n' o', .inr ⟨b3, 2 ^ n, _, Nat.one_le_two_pow, by omega, rfl, R'⟩, _, R'⟩ (show 2 - (k + 1) < 2 - k by omega) ⟨by kernel_rfl, by kernel_rfl, by kernel_rfl, (by kernel_rfl : _ = Value.int .i64 (IntKind.wrap .i64 (Int.ofNat (k + 1)))).trans (by rw [wrap_nat (by omega)]), trivial⟩)
            · intro _
              refine ok_go 1 ?_
              exact sy_next 0 _ g2 (by kernel_rfl) (by kernel_rfl) (ih (k + 1, .slice (some ⟨b3, 0, none⟩) (2 ^ n) (2 * 2 ^ n + 1)) _ g2 ⟨hlt, Xg.trans (Y1.trans Y2), .inr ⟨b3, 2 ^ n, _, Nat.one_le_two_pow, by omega, rfl, R.ext (Y1.trans Y2)⟩, _, R.ext (Y1.trans Y2)⟩ (show 2 - (k + 1) < 2 - k by omega) ⟨by kernel_rfl, by kernel_rfl, by kernel_rfl, (by kernel_rfl : _ = Value.int .i64 (IntKind.wrap .i64 (Int.ofNat (k + 1)))).trans (by rw [wrap_nat (by omega)]), trivial⟩)
          · intro _
            refine ok_go 7 ?_
            exact sy_next 0 _ g2 (by kernel_rfl) (by kernel_rfl) (ih (k + 1, .slice (some ⟨b3, 0, none⟩) (2 ^ n) (2 * 2 ^ n + 1)) _ g2 ⟨hlt, Xg.trans (Y1.trans Y2), .inr ⟨b3, 2 ^ n, _, Nat.one_le_two_pow, by omega, rfl, R.ext (Y1.trans Y2)⟩, _, R.ext (Y1.trans Y2)⟩ (show 2 - (k + 1) < 2 - k by omega) ⟨by kernel_rfl, by kernel_rfl, by kernel_rfl, (by kernel_rfl : _ = Value.int .i64 (IntKind.wrap .i64 (Int.ofNat (k + 1)))).trans (by rw [wrap_nat (by omega)]), trivial⟩)
        · exact absurd yf nf
      · rcases hg with ⟨nf, _⟩ | ⟨_, b12, rfl, hb12, B12⟩
        · exact absurd yf nf
        · have hbo := U.U.bo _ (2 ^ q) b11 (2 * 2 ^ q + 1) b12 (2 * 2 ^ q + 1) g2 (Nat.pow_le_pow_right (n := 2) (by decide) hq) (B11.ext Y2) B12
          refine ok_go 0 ?_
          refine sy_call 0 (by kernel_rfl) f1e ?_
          refine ok_go 3 ?_
          refine sy_call 0 (by kernel_rfl) (e33 g1) ?_
          refine ok_go 2 ?_
          refine sy_call 0 (by kernel_rfl) f2e ?_
          refine ok_go 8 ?_
          refine sy_call 0 (by kernel_rfl) hbo ?_
          refine ok_go 6 ?_
          refine sy_test 0 (decide (Int.ofNat w.length > 0)) (by kernel_rfl) ?_ ?_
          · intro hl
            have hl : 0 < w.length := by have := of_decide_eq_true hl; simp at this; omega
            obtain ⟨pp, p1, p2⟩ := (V.ext (Xg.trans (Y1.trans Y2))).read (P := Try.prog) (kd := .i64) uI zI agI (k := 0) (v := I (w[0])) (by rw [List.getElem?_map, List.getElem?_eq_getElem hl]; rfl)
            refine ok_go 1 ?_
            refine sy_load 0 (r := indexAddrOp Try.prog 50 (.slice va w.length vc) (J 0)) (h' := g2) (by kernel_rfl) p1 ?_
            refine ok_go 1 ?_
            refine sy_load 0 (r := loadT Try.prog g2 3 pp) (h' := g2) (by kernel_rfl) p2 ?_
            refine ok_go 5 ?_
            refine sy_test 0 ((w[0]).tmod 3 == 0) (by kernel_rfl) ?_ ?_
            · intro _
              have hix : w.length % 2 ^ n < 2 ^ n := Nat.mod_lt _ (Nat.two_pow_pos n)
              obtain ⟨g', st, R', n', o'⟩ := (R.ext (Y1.trans Y2)).store hix (IntKind.wrap .i64 (r (w.length % 2 ^ n) + 1))
              refine ok_go 4 ?_
              refine sy_any 0 (p := fun y => y = .int .u64 (Int.ofNat (w.length % 2 ^ n))) (h' := g2) ⟨.int .u64 ((IntKind.wrap .u64 (Int.ofNat w.length)).tmod (Int.ofNat (2 ^ n))), by rw [u64_nat (by omega)]; rfl, ?_⟩ ?_
              · rcases (by omega : n = 0 ∨ n = 1 ∨ n = 2 ∨ n = 3 ∨ n = 4 ∨ n = 5 ∨ n = 6) with rfl | rfl | rfl | rfl | rfl | rfl | rfl <;> kernel_rfl
              rintro _ rfl
              refine ok_go 0 ?_
              refine sy_load 0 (r := indexAddrOp Try.prog 50 (.slice (some ⟨b3, 0, none⟩) (2 ^ n) (2 * 2 ^ n + 1)) (.int .u64 (Int.ofNat (w.length % 2 ^ n)))) (h' := g2) (by kernel_rfl) (idxU hix) ?_
              refine ok_go 0 ?_
              refine sy_load 0 (r := loadT Try.prog g2 3 (ptr b3 (w.length % 2 ^ n))) (h' := g2) (by kernel_rfl) ((R.ext (Y1.trans Y2)).read hix) ?_
              refine ok_go 1 ?_
              refine sy_load 0 (r := indexAddrOp Try.prog 50 (.slice (some ⟨b3, 0, none⟩) (2 ^ n) (2 * 2 ^ n + 1)) (.int .u64 (Int.ofNat (w.length % 2 ^ n)))) (h' := g2) (by kernel_rfl) (idxU hix) ?_
              refine ok_go 0 ?_
              refine sy_store 0 (r := storeT Try.prog g2 3 (ptr b3 (w.length % 2 ^ n)) (I (IntKind.wrap .i64 (r (w.length % 2 ^ n) + 1)))) (by kernel_rfl) st ?_
              refine ok_go 1 ?_
              exact sy_next 0 _ g' (by kernel_rfl) (by kernel_rfl) (ih (k + 1, .slice (some ⟨b3, 0, none⟩) (2 ^ n) (2 * 2 ^ n + 1)) _ g' ⟨hlt, ext_of (Xg.trans (Y1.trans Y2)) hbn n' o', .inr ⟨b3, 2 ^ n, _, Nat.one_le_two_pow, by omega, rfl, R'⟩, _, R'⟩ (show 2 - (k + 1) < 2 - k by omega) ⟨by kernel_rfl, by kernel_rfl, by kernel_rfl, (by kernel_rfl : _ = Value.int .i64 (IntKind.wrap .i64 (Int.ofNat (k + 1)))).trans (by rw [wrap_nat (by omega)]), trivial⟩)
            · intro _
              refine ok_go 1 ?_
              exact sy_next 0 _ g2 (by kernel_rfl) (by kernel_rfl) (ih (k + 1, .slice (some ⟨b3, 0, none⟩) (2 ^ n) (2 * 2 ^ n + 1)) _ g2 ⟨hlt, Xg.trans (Y1.trans Y2), .inr ⟨b3, 2 ^ n, _, Nat.one_le_two_pow, by omega, rfl, R.ext (Y1.trans Y2)⟩, _, R.ext (Y1.trans Y2)⟩ (show 2 - (k + 1) < 2 - k by omega) ⟨by kernel_rfl, by kernel_rfl, by kernel_rfl, (by kernel_rfl : _ = Value.int .i64 (IntKind.wrap .i64 (Int.ofNat (k + 1)))).trans (by rw [wrap_nat (by omega)]), trivial⟩)
          · intro _
            refine ok_go 7 ?_
            exact sy_next 0 _ g2 (by kernel_rfl) (by kernel_rfl) (ih (k + 1, .slice (some ⟨b3, 0, none⟩) (2 ^ n) (2 * 2 ^ n + 1)) _ g2 ⟨hlt, Xg.trans (Y1.trans Y2), .inr ⟨b3, 2 ^ n, _, Nat.one_le_two_pow, by omega, rfl, R.ext (Y1.trans Y2)⟩, _, R.ext (Y1.trans Y2)⟩ (show 2 - (k + 1) < 2 - k by omega) ⟨by kernel_rfl, by kernel_rfl, by kernel_rfl, (by kernel_rfl : _ = Value.int .i64 (IntKind.wrap .i64 (Int.ofNat (k + 1)))).trans (by rw [wrap_nat (by omega)]), trivial⟩)
  · intro hlt
    refine ok_go 0 ?_
    refine sy_call 0 (by kernel_rfl) (U.U.aw g) ?_
    refine ok_go 0 ?_
    exact sy_done 0 (v := .bool true) (h := g) (by kernel_rfl) rfl
end Go.Proofs.Ytnfboopfpkaeaaa
namespace Go.Proofs.Ytnfboopfpkaeaaa
open Go Go.Eng Nim
set_option maxRecDepth 100000
theorem from_no (N lf m : Nat) (a : Option Addr) (c : Nat) (z : Value) (h : Hp) (sz : ∀ h, Ev lf m 56 [J N] h = some (.tuple #[z, .bool false], h)) : Ev lf (m + 1) 32 [.slice a N c] h = some (.tuple #[.slice none 0 0, I 70], h) := by
  refine fn_eq ?_
  refine ok_go 1 ?_
  refine sy_call 0 (by kernel_rfl) (sz h) ?_
  refine ok_go 4 ?_
  exact sy_done 0 (v := .tuple #[.slice none 0 0, I 70]) (h := h) (by kernel_rfl) ⟨rfl, rfl⟩
theorem rlow (k : Nat) : RLow 100000 (k + 20) where
  hlf := by decide
  va := fun b h => value_of b (k + 10) h
  on := fun z h hz => ones_of hz k h
theorem upper5 (k : Nat) : Upper5 100000 (k + 40) where
  U := upper (k + 18)
  dgr := fun f n b c h hn A => deg_of f n 100000 (k + 39) hn (by decide) (fun a c h => check_of n a c 100000 (k + 38) h fun h => size_of n hn (k + 28) h) (fun z h hz => count_of hz (k + 19) h) b c h (reals_of f n 100000 (k + 38) (lower n (k + 18) hn) (some ⟨b, 0, none⟩) c h (A.rds c))
  rrm := fun f n b c h hn A => rrem_of f n 100000 (k + 39) hn (rlow (k + 19)) b c h A
  it := fun f N a ca b cb h hN A B => ints_of f N 100000 (k + 39) a ca b cb hN (by decide) h A B
  rre := fun f n b c h hn A => rreal_of f n 100000 (k + 39) hn (rlow (k + 19)) b c h A
  rdg := fun f n b c h hn A => rdeg_of f n 100000 (k + 39) hn (rlow (k + 19)) b c h (rreal_of f n 100000 (k + 38) hn (rlow (k + 18)) b c h A)
  rsp := fun f n b c h hn A => rspec_of f n 100000 (k + 39) hn (rlow (k + 19)) b c h A
  ln := fun N hN => by
    rcases len_all hN with ⟨n, hn, rfl⟩ | h
    · exact .inl ⟨n, hn, rfl, fun h => rbits_of n hn (k + 20) h⟩
    · exact .inr ⟨(h (k + 20)).2, fun a c g => from_no N 100000 (k + 39) a c _ g (h (k + 19)).1⟩
  fg := fun v n b c h hn A => from_gen v n 100000 (k + 39) (lower n (k + 19) hn) b c h A
  rfr := fun v n b c h hn A => rfrom_of v n 100000 (k + 39) hn (by decide) b c h A
theorem said5 (x a0 a1 : Int) (w : List Int) (hw : w.length < 2 ^ 63) (va : Option Addr) (vc : Nat) (h : Hp) (V : Rds h (.slice va w.length vc) (w.map I)) (cut : (va = none ∧ w = [] ∧ vc = 0) ∨ ∃ a, va = some a ∧ ∀ K, K ≤ w.length → ∃ y, sliceOp Try.prog 50 (.slice (some a) w.length vc) none (some (J K)) none = some y ∧ Rds h y ((w.take K).map I)) : ∃ H, evInv Try.prog orc 100000 100 (.fn 5 [.int .u64 x, .agg #[I a0, I a1], .slice va w.length vc]) h = some (.bool true, H) :=
  s5 x a0 a1 w hw va vc 100000 99 (upper5 59) h V cut
end Go.Proofs.Ytnfboopfpkaeaaa
