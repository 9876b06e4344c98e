/- Depth: contracts, and the law of sensitivity and degree as the program asks it. -/
import Derived.Test.YtnfboopfpkaeaaaProg
import Derived.KernelRfl
import Derived.Test.YtnfboopfpkaeaaaSyF
import Derived.Test.YtnfboopfpkaeaaaSeesQB
import Derived.Laws.StructEq
/- HuangA: contracts of functions. -/
namespace Go.Proofs.Ytnfboopfpkaeaaa
open Go Go.Eng Nim
set_option maxRecDepth 100000
set_option maxHeartbeats 4000000
theorem pureRun_ite {P : Program} {α : Type} {c : Prop} [Decidable c] (s t : Sem α) : pureRun P (if c then s else t) = if c then pureRun P s else pureRun P t := by split <;> rfl
theorem eq_int1 (d : Nat) (a c : Nat) : pureRun Try.prog (Op.equalIn (d + 1) 3 (J a) (J c)) = some (a == c) := by
  have h3 : pureRun Try.prog (underlying 3) = some (.int .i64) := by kernel_rfl
  rw [Op.equalIn, pureRun_bind, h3, Option.bind_some]
  show some (Int.ofNat a == Int.ofNat c) = _
  rw [eq_int]
theorem eq_key (a b c e : Nat) : pureRun Try.prog (Op.equal 86 (.agg #[J a, J b]) (.agg #[J c, J e])) = some (a == c && b == e) := by
  have h86 : pureRun Try.prog (underlying 86) = some (.struct (Try.prog.fieldsOf 86)) := by kernel_rfl
  have hp : Try.prog.stoodInHeld 86 = false := by kernel_rfl
  show pureRun Try.prog (Op.equalIn (9999 + 1) 86 _ _) = _
  rw [Op.equalIn, pureRun_bind, h86, Option.bind_some]
  simp only [pureRun_bind, program, pureRun, Option.bind_some, hp, Bool.false_eq_true, if_false]
  rw [← Array.forIn_toList]
  obtain ⟨f0, f1, hf, h0, h1, n0, n1, t0, t1⟩ : ∃ f0 f1, (Try.prog.fieldsOf 86).toList = [f0, f1] ∧ f0.offset = 0 ∧ f1.offset = 1 ∧ f0.name = "mask" ∧ f1.name = "value" ∧ f0.type = 3 ∧ f1.type = 3 := ⟨_, _, rfl, by kernel_rfl, by kernel_rfl, by kernel_rfl, by kernel_rfl, by kernel_rfl, by kernel_rfl⟩
  rw [hf]
  have p0 : ∀ (x y : Value), pureRun Try.prog (Go.part 3 #[x, y] 0) = some x := fun x y => by kernel_rfl
  have p1 : ∀ (x y : Value), pureRun Try.prog (Go.part 3 #[x, y] 1) = some y := fun x y => by kernel_rfl
  have ne0 : ("mask" ≠ "_") = True := by simp
  have ne1 : ("value" ≠ "_") = True := by simp
  simp only [List.forIn_cons, List.forIn_nil, pureRun_bind, h0, h1, n0, n1, t0, t1, ne0, ne1, if_true, p0, p1, Option.bind_some, eq_int1]
  cases (a == c)
  · rfl
  · simp only [Bool.not_true, Bool.false_eq_true, if_false, pureRun_bind, p1, eq_int1, Option.bind_some]
    have hpure : ∀ {α : Type} (x : α), pureRun Try.prog (pure x : Sem α) = some x := fun _ => rfl
    simp only [hpure, Option.bind_some, pureRun_bind, p1, eq_int1]
    cases (b == e) <;> rfl
/-- Whether all of the first numbers have it. -/
def al (p : Nat → Bool) : Nat → Bool
  | 0 => true
  | k + 1 => al p k && p k
theorem al_iff {p : Nat → Bool} : ∀ {n : Nat}, al p n = true ↔ ∀ x, x < n → p x = true
  | 0 => ⟨fun _ x hx => absurd hx (Nat.not_lt_zero x), fun _ => rfl⟩
  | n + 1 => by
    rw [al, Bool.and_eq_true, al_iff]
    constructor
    · rintro ⟨h1, h2⟩ x hx
      by_cases e : x = n
      · rw [e]; exact h2
      · exact h1 x (by omega)
    · exact fun h => ⟨fun x hx => h x (by omega), h n (by omega)⟩
/-- A decider over a table, in block bd. -/
def Dcd (bd b0 N c : Nat) (h : Hp) : Prop := bd < h.next ∧ ∃ z opn, h.get bd = some (.cells [.slice (some ⟨b0, 0, none⟩) N c, z] 83 opn)
theorem Dcd.ext {bd b0 N c : Nat} {h g : Hp} (H : Dcd bd b0 N c h) (k : h.Ext g) : Dcd bd b0 N c g := by
  obtain ⟨h1, z, o, e⟩ := H
  exact ⟨Nat.lt_of_lt_of_le h1 k.next, z, o, k.at_ h1 e⟩
theorem Dcd.read {bd b0 N c : Nat} {h : Hp} (H : Dcd bd b0 N c h) : loadT Try.prog h 27 (ptr bd 0) = some (.slice (some ⟨b0, 0, none⟩) N c) := by
  obtain ⟨_, z, o, e⟩ := H
  exact load1 (by kernel_rfl) e rfl
def cq (f : Nat → Bool) (m v x : Nat) : Bool := (x &&& m != v) || f x == f v
theorem const_of (f : Nat → Bool) (N : Nat) (hN : N ≤ 64) (lf k : Nat) (hlf : 300 ≤ lf) (b0 c bd m v : Nat) (hv : v < N) (hm : m < 64) (h : Hp) (A : ArB b0 N f h) (D : Dcd bd b0 N c h) :
    ∃ y h', Ev lf (k + 1) 82 [ptr bd 0, .agg #[J m, J v]] h = some (y, h') ∧ y = .tuple #[.bool (f v), .bool (al (cq f m v) N)] ∧ h.Ext h' := by
  refine fnS_ok (Q := fun y h' => y = .tuple #[.bool (f v), .bool (al (cq f m v) N)] ∧ h.Ext h') ?_
  have X0 : h.Ext (h.new (.cells [J m, J v] 86 false)) := Hp.Ext.new _ _
  have gx := get_new h (.cells [J m, J v] 86 false)
  have A1 := A.ext X0
  have D1 := D.ext X0
  refine ok_go 3 ?_
  refine sy_load 0 (r := loadT Try.prog (h.new (.cells [J m, J v] 86 false)) 27 (ptr bd 0)) (h' := h.new (.cells [J m, J v] 86 false)) (by kernel_rfl) D1.read ?_
  generalize h.new (.cells [J m, J v] 86 false) = X at X0 gx A1 D1 ⊢
  refine ok_go 1 ?_
  refine sy_load 0 (r := loadT Try.prog X 3 (ptr h.next 1)) (h' := X) (v := J v) (by kernel_rfl) (load1 agI gx rfl) ?_
  refine ok_go 0 ?_
  refine sy_load 0 (r := indexAddrOp Try.prog 27 (.slice (some ⟨b0, 0, none⟩) N c) (J v)) (h' := X) (by kernel_rfl) (idxB hv) ?_
  refine ok_go 0 ?_
  refine sy_load 0 (r := loadT Try.prog X 4 (ptr b0 v)) (h' := X) (by kernel_rfl) (A1.read hv) ?_
  refine ok_go 2 ?_
  refine sy_load 0 (r := loadT Try.prog X 27 (ptr bd 0)) (h' := X) (by kernel_rfl) D1.read ?_
  refine ok_go 1 ?_
  refine sy_loop 0 lf X (α := Nat) (fun x => [(3, ptr h.next 0), (4, .bool (f v)), (5, .bool (al (cq f m v) x)), (19, .slice (some ⟨b0, 0, none⟩) N c), (20, J N), (21, J x)]) (fun x g => x ≤ N ∧ g = X) (fun x _ => N - x) 0 (by kernel_rfl) (by kernel_rfl) ⟨by kernel_rfl, by kernel_rfl, by kernel_rfl, by kernel_rfl, by kernel_rfl, by kernel_rfl, trivial⟩ (by omega) ⟨Nat.zero_le _, rfl⟩ ?_
  rintro m1 x f1 g ⟨hx, rfl⟩ ih
  refine ok_go 1 ?_
  refine sy_test 0 (decide (Int.ofNat x < Int.ofNat N)) (by kernel_rfl) ?_ ?_
  · intro hlt
    have hlt := ok_nat hlt
    have hwx : IntKind.wrap .i64 (Int.ofNat (x + 1)) = Int.ofNat (x + 1) := wrap_nat (by omega)
    have hand : (andI (Int.ofNat x) (Int.ofNat m) != Int.ofNat v) = (x &&& m != v) := by rw [and_nat (by omega), ne_int]
    refine ok_go 0 ?_
    refine sy_load 0 (r := indexAddrOp Try.prog 27 (.slice (some ⟨b0, 0, none⟩) N c) (J x)) (h' := g) (by kernel_rfl) (idxB hlt) ?_
    refine ok_go 0 ?_
    refine sy_load 0 (r := loadT Try.prog g 4 (ptr b0 x)) (h' := g) (by kernel_rfl) (A1.read hlt) ?_
    refine ok_go 0 ?_
    refine sy_test 0 (al (cq f m v) x) (by kernel_rfl) ?_ ?_
    · intro hs
      refine ok_go 3 ?_
      refine sy_load 0 (r := loadT Try.prog g 3 (ptr h.next 0)) (h' := g) (v := J m) (by kernel_rfl) (load1 agI gx rfl) ?_
      refine ok_go 5 ?_
      refine sy_load 0 (r := loadT Try.prog g 3 (ptr h.next 1)) (h' := g) (v := J v) (by kernel_rfl) (load1 agI gx rfl) ?_
      refine ok_go 3 ?_
      refine sy_test 0 (andI (Int.ofNat x) (Int.ofNat m) != Int.ofNat v) (by kernel_rfl) ?_ ?_
      · intro hd
        rw [hand] at hd
        refine ok_go 6 ?_
        exact sy_next 0 _ g (by kernel_rfl) (by kernel_rfl) (ih (x + 1) _ g ⟨hlt, rfl⟩ (show N - (x + 1) < N - x by omega) ⟨by kernel_rfl, by kernel_rfl, (by kernel_rfl : _ = Value.bool true).trans (by rw [al, hs, cq, hd]; rfl), by kernel_rfl, by kernel_rfl, (by kernel_rfl : _ = Value.int .i64 (IntKind.wrap .i64 (Int.ofNat (x + 1)))).trans (by rw [hwx]), trivial⟩)
      · intro hd
        rw [hand] at hd
        refine ok_go 7 ?_
        exact sy_next 0 _ g (by kernel_rfl) (by kernel_rfl) (ih (x + 1) _ g ⟨hlt, rfl⟩ (show N - (x + 1) < N - x by omega) ⟨by kernel_rfl, by kernel_rfl, (by kernel_rfl : _ = Value.bool (f x == f v)).trans (by rw [al, hs, cq, hd]; rfl), by kernel_rfl, by kernel_rfl, (by kernel_rfl : _ = Value.int .i64 (IntKind.wrap .i64 (Int.ofNat (x + 1)))).trans (by rw [hwx]), trivial⟩)
    · intro hs
      refine ok_go 10 ?_
      exact sy_next 0 _ g (by kernel_rfl) (by kernel_rfl) (ih (x + 1) _ g ⟨hlt, rfl⟩ (show N - (x + 1) < N - x by omega) ⟨by kernel_rfl, by kernel_rfl, (by kernel_rfl : _ = Value.bool false).trans (by rw [al, hs]; rfl), by kernel_rfl, by kernel_rfl, (by kernel_rfl : _ = Value.int .i64 (IntKind.wrap .i64 (Int.ofNat (x + 1)))).trans (by rw [hwx]), trivial⟩)
  · intro hlt
    have hlt := no_nat hlt
    have hxN : x = N := by omega
    subst hxN
    refine ok_go 0 ?_
    exact sy_done 0 (v := .tuple #[.bool (f v), .bool (al (cq f m v) x)]) (h := g) (by kernel_rfl) ⟨rfl, X0⟩

/-! The map from parts to numbers. -/
def keyV (m v : Nat) : Value := .agg #[J m, J v]
def MapOk (L : Nat → Nat → Nat) (es : List MapEntry) : Prop := ∀ e ∈ es, ∃ m v, e.key = keyV m v ∧ e.val = J (L m v)
theorem key_inj {a b c e : Nat} (h : keyV a b = keyV c e) : a = c ∧ b = e := by
  simp only [keyV, Value.agg.injEq, List.cons.injEq, Array.mk.injEq, Value.int.injEq, true_and, and_true] at h
  exact ⟨Int.ofNat_inj.1 h.1, Int.ofNat_inj.1 h.2⟩
theorem ask_ok (m v : Nat) (L : Nat → Nat → Nat) : ∀ (es : List MapEntry) (i : Nat), MapOk L es → (∃ k, pureRun Try.prog (Instr.findAsking 86 (keyV m v) es i) = some (some (k, J (L m v)))) ∨ (pureRun Try.prog (Instr.findAsking 86 (keyV m v) es i) = some none ∧ ∀ e ∈ es, e.key ≠ keyV m v)
  | [], i, _ => .inr ⟨rfl, fun e he => by cases he⟩
  | e :: es, i, h => by
    obtain ⟨a, b, h1, h2⟩ := h e (List.mem_cons_self ..)
    have ih := ask_ok m v L es (i + 1) fun x hx => h x (List.mem_cons_of_mem _ hx)
    have he : pureRun Try.prog (Op.equal 86 (keyV m v) e.key) = some (m == a && v == b) := by rw [h1]; exact eq_key m v a b
    simp only [Instr.findAsking, pureRun_bind, he, Option.bind_some]
    cases hb : (m == a && v == b)
    · rcases ih with ⟨k, hk⟩ | ⟨hk, hn⟩
      · exact .inl ⟨k, by simpa using hk⟩
      · refine .inr ⟨by simpa using hk, fun x hx => ?_⟩
        rcases List.mem_cons.1 hx with rfl | hx
        · rw [h1]
          intro hc
          obtain ⟨rfl, rfl⟩ := key_inj hc
          simp at hb
        · exact hn x hx
    · simp only [Bool.and_eq_true, beq_iff_eq] at hb
      obtain ⟨rfl, rfl⟩ := hb
      exact .inl ⟨i, by rw [← h2]; rfl⟩
theorem key_flat {L : Nat → Nat → Nat} {es : List MapEntry} (h : MapOk L es) : (es.all fun e => flat e.key) = true := by
  rw [List.all_eq_true]
  intro e he
  obtain ⟨a, b, h1, _⟩ := h e he
  rw [h1]; rfl
theorem find_run (m v : Nat) (L : Nat → Nat → Nat) (b : Bool) (es : List MapEntry) (h : MapOk L es) : (∃ k, pureRun Try.prog (do Instr.checkKey b 10000 86 (keyV m v); Instr.findKey 86 (keyV m v) es) = some (some (k, J (L m v)))) ∨ (pureRun Try.prog (do Instr.checkKey b 10000 86 (keyV m v); Instr.findKey 86 (keyV m v) es) = some none ∧ ∀ e ∈ es, e.key ≠ keyV m v) := by
  have hck : pureRun Try.prog (Instr.checkKey b 10000 86 (keyV m v)) = some () := by kernel_rfl
  have h86 : pureRun Try.prog (underlying 86) = some (.struct (Try.prog.fieldsOf 86)) := by kernel_rfl
  simp only [pureRun_bind, hck, Option.bind_some, Instr.findKey, h86]
  cases es with
  | nil => exact .inr ⟨rfl, fun e he => by cases he⟩
  | cons e es =>
    have hn : Instr.findNow (.struct (Try.prog.fieldsOf 86)) (keyV m v) (e :: es) 0 = none := by
      simp only [Instr.findNow, Instr.sameNow]
    rw [hn]
    exact ask_ok m v L (e :: es) 0 h
theorem look_ok (m v : Nat) (L : Nat → Nat → Nat) (es : List MapEntry) (ok : MapOk L es) (h : Hp) (mid cl : Nat) (hg : h.get mid = some (.map es cl)) :
    lookupOp Try.prog h 81 (.map (some mid)) (keyV m v) true = some (.tuple #[J (L m v), .bool true]) ∨ (lookupOp Try.prog h 81 (.map (some mid)) (keyV m v) true = some (.tuple #[J 0, .bool false]) ∧ ∀ e ∈ es, e.key ≠ keyV m v) := by
  have hu : Try.prog.underlying 81 = some (.map 86 3) := by kernel_rfl
  have hf : flat (keyV m v) = true := rfl
  have hz : zeroOf Try.prog 3 = some (J 0) := by kernel_rfl
  simp only [lookupOp, hu, hf, hg, findIn, key_flat ok]
  rcases find_run m v L es.isEmpty es ok with ⟨k, hk⟩ | ⟨hk, hn⟩
  · left; rw [hk]; rfl
  · right; rw [hk]; simp only [hz, if_true]; exact ⟨trivial, hn⟩
theorem upd_ok (m v : Nat) (L : Nat → Nat → Nat) (es : List MapEntry) (ok : MapOk L es) (hn : ∀ e ∈ es, e.key ≠ keyV m v) (h : Hp) (mid cl : Nat) (hg : h.get mid = some (.map es cl)) (x : Value) :
    mapUpdateOp Try.prog h 81 (.map (some mid)) (keyV m v) x = some (h.put mid (.map (es ++ [{ key := keyV m v, val := x, born := cl }]) (cl + 1))) := by
  have hu : Try.prog.underlying 81 = some (.map 86 3) := by kernel_rfl
  have hf : flat (keyV m v) = true := rfl
  simp only [mapUpdateOp, hu, hf, hg, key_flat ok]
  rcases find_run m v L false es ok with ⟨k, hk⟩ | ⟨hk, _⟩
  · exfalso
    -- the key is there: against hn
    have key : ∀ (es : List MapEntry) (i k : Nat) (y : Value), MapOk L es → (∀ e ∈ es, e.key ≠ keyV m v) → pureRun Try.prog (Instr.findAsking 86 (keyV m v) es i) ≠ some (some (k, y)) := by
      intro es
      induction es with
      | nil => intro i k y _ _ hc; cases hc
      | cons e es ih =>
        intro i k y h hn hc
        obtain ⟨a, b, h1, h2⟩ := h e (List.mem_cons_self ..)
        have he : pureRun Try.prog (Op.equal 86 (keyV m v) e.key) = some (m == a && v == b) := by rw [h1]; exact eq_key m v a b
        simp only [Instr.findAsking, pureRun_bind, he, Option.bind_some] at hc
        cases hb : (m == a && v == b)
        · rw [hb] at hc
          exact ih (i + 1) k y (fun x hx => h x (List.mem_cons_of_mem _ hx)) (fun x hx => hn x (List.mem_cons_of_mem _ hx)) (by simpa using hc)
        · simp only [Bool.and_eq_true, beq_iff_eq] at hb
          obtain ⟨rfl, rfl⟩ := hb
          exact hn e (List.mem_cons_self ..) h1
    have hck : pureRun Try.prog (Instr.checkKey false 10000 86 (keyV m v)) = some () := by kernel_rfl
    have h86 : pureRun Try.prog (underlying 86) = some (.struct (Try.prog.fieldsOf 86)) := by kernel_rfl
    simp only [pureRun_bind, hck, Option.bind_some, Instr.findKey, h86] at hk
    cases es with
    | nil => cases hk
    | cons e es =>
      have hn' : Instr.findNow (.struct (Try.prog.fieldsOf 86)) (keyV m v) (e :: es) 0 = none := by
        simp only [Instr.findNow, Instr.sameNow]
      rw [hn'] at hk
      exact key (e :: es) 0 k _ ok hn hk
  · rw [hk]
theorem store2 {P : Program} {h : Hp} {t : TypeId} {i a b : Nat} {cs : List Value} {e : TypeId} {o : Bool} (hs : sizeT P t = some 2) (hg : h.get i = some (.cells cs e o)) (hc : cs.length = 2) : storeT P h t (ptr i 0) (.agg #[J a, J b]) = some (h.put i (.cells [J a, J b] e o)) := by
  have hb : Nat.ble (0 + [J a, J b].length) cs.length = true := by rw [hc]; rfl
  have hv : (Value.agg #[J a, J b]).cells.toList = [J a, J b] := rfl
  have hz : Nat.beq (Value.agg #[J a, J b]).cells.size 2 = true := rfl
  simp only [storeT, hs, hz, hv, storeN, hg, hb]
  unfold splice
  rw [List.take_zero, List.drop_eq_nil_of_le (by simp [hc])]
  rfl
theorem load2 {P : Program} {h : Hp} {t : TypeId} {i : Nat} {a b : Value} {e : TypeId} {o : Bool} (ha : isAggT P t = some true) (hs : sizeT P t = some 2) (hg : h.get i = some (.cells [a, b] e o)) : loadT P h t (ptr i 0) = some (.agg #[a, b]) := by
  simp only [ptr, loadT, ha, hs, loadN, hg, List.drop_zero, takeN]
theorem agP : isAggT Try.prog 86 = some true := by kernel_rfl
theorem szP : sizeT Try.prog 86 = some 2 := by kernel_rfl
theorem with_of (lf k m v b : Nat) (s : Bool) (hm : m < 64) (hv : v < 64) (hb : b < 64) (h : Hp) :
    ∃ y h', Ev lf (k + 1) 84 [keyV m v, J b, .bool s] h = some (y, h') ∧ y = keyV (m ||| b) (if s = true then v ||| b else v) ∧ h.Ext h' := by
  refine fnS_ok (Q := fun y h' => y = keyV (m ||| b) (if s = true then v ||| b else v) ∧ h.Ext h') ?_
  let h1 : Hp := (h.new (.cells [J m, J v] 86 false)).new (.cells [J 0, J 0] 86 false)
  let h2 : Hp := h1.put h.next (.cells [J (m ||| b), J v] 86 false)
  have e1 : h1.get h.next = some (.cells [J m, J v] 86 false) := by
    simp only [h1, gn, nn, if_true]
    repeat (first | rw [if_pos (by omega)] | rw [if_neg (by omega)])
  have e2 : h2.get h.next = some (.cells [J (m ||| b), J v] 86 false) := get_put _ _ _
  have o2 : ∀ j, j < h.next → h2.get j = h.get j := fun j hj => by
    simp only [h2, h1, gn, gp, nn]
    repeat (first | rw [if_pos (by omega)] | rw [if_neg (by omega)])
  have hor : orI (Int.ofNat m) (Int.ofNat b) = Int.ofNat (m ||| b) := or_nat (by omega) (by omega)
  have fin : ∀ w, ∃ h3 h4 : Hp, h3 = h2.put h.next (.cells [J (m ||| b), J w] 86 false) ∧ h4 = h3.put (h.next + 1) (.cells [J (m ||| b), J w] 86 false) ∧ h3.get h.next = some (.cells [J (m ||| b), J w] 86 false) ∧ h3.get (h.next + 1) = some (.cells [J 0, J 0] 86 false) ∧ h4.get (h.next + 1) = some (.cells [J (m ||| b), J w] 86 false) ∧ h.Ext h4 := fun w => by
    refine ⟨_, _, rfl, rfl, get_put _ _ _, ?_, get_put _ _ _, ⟨by show h.next ≤ h.next + 1 + 1; omega, fun j hj => ?_⟩⟩
    · simp only [h2, h1, gn, gp, nn, if_true]
      repeat (first | rw [if_pos (by omega)] | rw [if_neg (by omega)])
    · rw [Hp.get_put_ne (by omega), Hp.get_put_ne (by omega)]
      exact o2 j hj
  refine ok_go 3 ?_
  refine sy_load 0 (r := loadT Try.prog h1 3 (ptr h.next 0)) (h' := h1) (v := J m) (by kernel_rfl) (load1 agI e1 rfl) ?_
  refine ok_go 2 ?_
  refine sy_store 0 (r := storeT Try.prog h1 3 (ptr h.next 0) (.int .i64 (orI (Int.ofNat m) (Int.ofNat b)))) (h' := h2) (by kernel_rfl) (by rw [hor]; exact store1 zI rfl e1 (show 0 < 2 by omega)) ?_
  cases s with
  | true =>
    have hor2 : orI (Int.ofNat v) (Int.ofNat b) = Int.ofNat (v ||| b) := or_nat (by omega) (by omega)
    obtain ⟨h3, h4, r3, r4, g3, g3', g4, X⟩ := fin (v ||| b)
    refine ok_go 2 ?_
    refine sy_load 0 (r := loadT Try.prog h2 3 (ptr h.next 1)) (h' := h2) (v := J v) (by kernel_rfl) (load1 agI e2 rfl) ?_
    refine ok_go 2 ?_
    refine sy_store 0 (r := storeT Try.prog h2 3 (ptr h.next 1) (.int .i64 (orI (Int.ofNat v) (Int.ofNat b)))) (h' := h3) (by kernel_rfl) (by rw [hor2, r3]; exact store1 zI rfl e2 (show 1 < 2 by omega)) ?_
    refine ok_go 0 ?_
    refine sy_load 0 (r := loadT Try.prog h3 86 (ptr h.next 0)) (h' := h3) (by kernel_rfl) (load2 agP szP g3) ?_
    refine ok_go 0 ?_
    refine sy_store 0 (r := storeT Try.prog h3 86 (ptr (h.next + 1) 0) (.agg #[J (m ||| b), J (v ||| b)])) (h' := h4) (by kernel_rfl) (by rw [r4]; exact store2 szP g3' rfl) ?_
    refine ok_go 0 ?_
    refine sy_load 0 (r := loadT Try.prog h4 86 (ptr (h.next + 1) 0)) (h' := h4) (by kernel_rfl) (load2 agP szP g4) ?_
    refine ok_go 0 ?_
    exact sy_done 0 (v := keyV (m ||| b) (v ||| b)) (h := h4) (by kernel_rfl) ⟨rfl, X⟩
  | false =>
    obtain ⟨h3, h4, r3, r4, g3, g3', g4, X⟩ := fin v
    have X' : ∃ h5 : Hp, h5 = h2.put (h.next + 1) (.cells [J (m ||| b), J v] 86 false) ∧ h5.get (h.next + 1) = some (.cells [J (m ||| b), J v] 86 false) ∧ h.Ext h5 := ⟨_, rfl, get_put _ _ _, by show h.next ≤ h.next + 1 + 1; omega, fun j hj => by rw [Hp.get_put_ne (by omega)]; exact o2 j hj⟩
    obtain ⟨h5, r5, g5, X5⟩ := X'
    have e2' : h2.get (h.next + 1) = some (.cells [J 0, J 0] 86 false) := by
      simp only [h2, h1, gn, gp, nn, if_true]
      repeat (first | rw [if_pos (by omega)] | rw [if_neg (by omega)])
    refine ok_go 1 ?_
    refine sy_load 0 (r := loadT Try.prog h2 86 (ptr h.next 0)) (h' := h2) (by kernel_rfl) (load2 agP szP e2) ?_
    refine ok_go 0 ?_
    refine sy_store 0 (r := storeT Try.prog h2 86 (ptr (h.next + 1) 0) (.agg #[J (m ||| b), J v])) (h' := h5) (by kernel_rfl) (by rw [r5]; exact store2 szP e2' rfl) ?_
    refine ok_go 0 ?_
    refine sy_load 0 (r := loadT Try.prog h5 86 (ptr (h.next + 1) 0)) (h' := h5) (by kernel_rfl) (load2 agP szP g5) ?_
    refine ok_go 0 ?_
    exact sy_done 0 (v := keyV (m ||| b) v) (h := h5) (by kernel_rfl) ⟨rfl, X5⟩
end Go.Proofs.Ytnfboopfpkaeaaa
/- HuangB: contracts of functions. -/
namespace Go.Proofs.Ytnfboopfpkaeaaa
open Go Go.Eng Nim
set_option maxRecDepth 100000
set_option maxHeartbeats 4000000
/-- The least of the depths by the first bits, and 6. -/
def mnl (n m : Nat) (D : Nat → Nat) : Nat → Nat
  | 0 => 6
  | i + 1 => if (m &&& 2 ^ i == 0) = true then min (mnl n m D i) (D i) else mnl n m D i
/-- The depth of a part, to some levels. -/
def Lq (f : Nat → Bool) (n : Nat) : Nat → Nat → Nat → Nat
  | 0, _, _ => 0
  | d + 1, m, v => if al (cq f m v) (2 ^ n) = true then 0 else mnl n m (fun i => 1 + max (Lq f n d (m ||| 2 ^ i) v) (Lq f n d (m ||| 2 ^ i) (v ||| 2 ^ i))) n
theorem mnl_congr (n m : Nat) {D D' : Nat → Nat} : ∀ k, (∀ i, i < k → m &&& 2 ^ i = 0 → D i = D' i) → mnl n m D k = mnl n m D' k
  | 0, _ => rfl
  | k + 1, h => by
    rw [mnl, mnl, mnl_congr n m k (fun i hi => h i (by omega))]
    split
    · rename_i hz
      rw [h k (Nat.lt_succ_self k) (eq_of_beq hz)]
    · rfl
theorem mnl_le (n m : Nat) (D : Nat → Nat) : ∀ k, mnl n m D k ≤ 6
  | 0 => Nat.le_refl _
  | k + 1 => by
    have := mnl_le n m D k
    rw [mnl]
    split <;> omega
theorem Lq_le (f : Nat → Bool) (n : Nat) : ∀ d m v, Lq f n d m v ≤ 6
  | 0, _, _ => Nat.zero_le _
  | d + 1, m, v => by
    rw [Lq]
    split
    · omega
    · exact mnl_le n m _ n
theorem or_gt {m i : Nat} (h : m &&& 2 ^ i = 0) : m < m ||| 2 ^ i := by
  rw [or_bit ((and_bit m i).1 h)]
  rcases Nat.lt_or_ge m (m ^^^ 2 ^ i) with h1 | h1
  · exact h1
  · have h2 : m ||| 2 ^ i = m ^^^ 2 ^ i := or_bit ((and_bit m i).1 h)
    have h3 : m ≤ m ||| 2 ^ i := Nat.left_le_or
    rw [h2] at h3
    have h4 : m = m ^^^ 2 ^ i := by omega
    have h5 := congrArg (fun z => z.testBit i) h4
    simp only [tb_same, (and_bit m i).1 h] at h5
    cases h5
theorem Lq_stable (f : Nat → Bool) (n : Nat) : ∀ d d' m v, m < 2 ^ n → 2 ^ n - m ≤ d → 2 ^ n - m ≤ d' → Lq f n d m v = Lq f n d' m v
  | 0, d', m, v, hm, h, _ => by omega
  | d + 1, 0, m, v, hm, _, h => by omega
  | d + 1, d' + 1, m, v, hm, h, h' => by
    rw [Lq, Lq]
    split
    · rfl
    · refine mnl_congr n m n fun i hi hz => ?_
      have h1 := or_gt hz
      have h2 : m ||| 2 ^ i < 2 ^ n := or_small hm (Nat.pow_lt_pow_right (by decide) hi)
      rw [Lq_stable f n d d' _ _ h2 (by omega) (by omega), Lq_stable f n d d' _ _ h2 (by omega) (by omega)]
/-- The depth of a part. -/
def Lf (f : Nat → Bool) (n m v : Nat) : Nat := Lq f n (2 ^ n) m v
theorem Lf_le (f : Nat → Bool) (n m v : Nat) : Lf f n m v ≤ 6 := Lq_le f n _ m v
theorem Lf_eq (f : Nat → Bool) (n m v : Nat) (hm : m < 2 ^ n) : Lf f n m v = if al (cq f m v) (2 ^ n) = true then 0 else mnl n m (fun i => 1 + max (Lf f n (m ||| 2 ^ i) v) (Lf f n (m ||| 2 ^ i) (v ||| 2 ^ i))) n := by
  have h0 := Nat.two_pow_pos n
  have e : Lf f n m v = Lq f n (2 ^ n + 1) m v := Lq_stable f n _ _ m v hm (by omega) (by omega)
  rw [e, Lq]
  rfl

/-- The map of a decider, in block mid. -/
structure Dm (f : Nat → Bool) (n bd b0 c mid : Nat) (es : List MapEntry) (cl : Nat) (h : Hp) : Prop where
  blk : bd < h.next ∧ h.get bd = some (.cells [.slice (some ⟨b0, 0, none⟩) (2 ^ n) c, .map (some mid)] 83 false)
  mp : mid < h.next ∧ h.get mid = some (.map es cl)
  ne : bd ≠ mid ∧ b0 ≠ mid
  ok : MapOk (Lf f n) es
  arr : ArB b0 (2 ^ n) f h
/-- Only parts that tell more are new. -/
def New (m : Nat) (es es' : List MapEntry) : Prop := ∀ e ∈ es', e ∈ es ∨ ∃ a b, e.key = keyV a b ∧ m &&& a = m
theorem New.refl (m : Nat) (es : List MapEntry) : New m es es := fun _ he => .inl he
theorem New.trans {m : Nat} {a b c : List MapEntry} (h : New m a b) (k : New m b c) : New m a c := fun e he => by
  rcases k e he with h1 | h1
  · exact h e h1
  · exact .inr h1
theorem New.less {m i : Nat} {a b : List MapEntry} (h : New (m ||| 2 ^ i) a b) : New m a b := fun e he => by
  rcases h e he with h1 | ⟨x, y, h1, h2⟩
  · exact .inl h1
  · refine .inr ⟨x, y, h1, ?_⟩
    refine sb_iff.2 fun j hj => sb_iff.1 h2 j ?_
    rw [Nat.testBit_or, hj]; rfl
/-- What least does with a part. -/
def Least (f : Nat → Bool) (n lf F bd b0 c mid m v : Nat) : Prop := ∀ h es cl, Dm f n bd b0 c mid es cl h → ∃ h' es' cl', Ev lf F 52 [ptr bd 0, keyV m v] h = some (J (Lf f n m v), h') ∧ Dm f n bd b0 c mid es' cl' h' ∧ New m es es' ∧ Exc [mid] h h'
theorem least_of (f : Nat → Bool) (n : Nat) (hn : n ≤ 5) (lf bd b0 c mid : Nat) (hlf : 300 ≤ lf) (F m v : Nat) (hm : m < 2 ^ n) (hv : v < 2 ^ n)
    (co : ∀ h, ArB b0 (2 ^ n) f h → Dcd bd b0 (2 ^ n) c h → ∃ y h', Ev lf (F + 2) 82 [ptr bd 0, keyV m v] h = some (y, h') ∧ y = .tuple #[.bool (f v), .bool (al (cq f m v) (2 ^ n))] ∧ h.Ext h')
    (wi : ∀ i s h, i < n → ∃ y h', Ev lf F 84 [keyV m v, J (2 ^ i), .bool s] h = some (y, h') ∧ y = keyV (m ||| 2 ^ i) (if s = true then v ||| 2 ^ i else v) ∧ h.Ext h')
    (rec_ : ∀ i w, i < n → m &&& 2 ^ i = 0 → (w = v ∨ w = v ||| 2 ^ i) → Least f n lf F bd b0 c mid (m ||| 2 ^ i) w) : Least f n lf (F + 3) bd b0 c mid m v := by
  intro h es cl D
  have hp32 : 2 ^ n ≤ 32 := Nat.pow_le_pow_right (n := 2) (by decide) hn
  have main : ∃ y h', Ev lf (F + 3) 52 [ptr bd 0, keyV m v] h = some (y, h') ∧ (y = J (Lf f n m v) ∧ ∃ es' cl', Dm f n bd b0 c mid es' cl' h' ∧ New m es es' ∧ Exc [mid] h h') := by
    refine fnS_ok (Q := fun y h' => y = J (Lf f n m v) ∧ ∃ es' cl', Dm f n bd b0 c mid es' cl' h' ∧ New m es es' ∧ Exc [mid] h h') ?_
    obtain ⟨⟨hbd, gbd⟩, ⟨hmid, gmid⟩, hne, ok, A⟩ := D
    let H2 : Hp := (h.new (.cells [ptr bd 0] 80 false)).new (.cells [J m, J v] 86 false)
    have n2 : H2.next = h.next + 2 := rfl
    have o2 : ∀ j, j < h.next → H2.get j = h.get j := fun j hj => by
      simp only [H2, gn, nn]
      repeat (first | rw [if_pos (by omega)] | rw [if_neg (by omega)])
    have e0 : H2.get h.next = some (.cells [ptr bd 0] 80 false) := by
      simp only [H2, gn, nn, if_true]
      repeat (first | rw [if_pos (by omega)] | rw [if_neg (by omega)])
    have e1 : H2.get (h.next + 1) = some (.cells [J m, J v] 86 false) := by
      simp only [H2, gn, nn, if_true]
    have gb2 : H2.get bd = some (.cells [.slice (some ⟨b0, 0, none⟩) (2 ^ n) c, .map (some mid)] 83 false) := by rw [o2 _ hbd]; exact gbd
    have gm2 : H2.get mid = some (.map es cl) := by rw [o2 _ hmid]; exact gmid
    refine ok_go 2 ?_
    refine sy_load 0 (r := loadT Try.prog H2 80 (ptr h.next 0)) (h' := H2) (v := ptr bd 0) (by kernel_rfl) (load1 (by kernel_rfl) e0 rfl) ?_
    refine ok_go 2 ?_
    refine sy_load 0 (r := loadT Try.prog H2 81 (ptr bd 1)) (h' := H2) (v := .map (some mid)) (by kernel_rfl) (load1 (by kernel_rfl) gb2 rfl) ?_
    refine ok_go 0 ?_
    refine sy_load 0 (r := loadT Try.prog H2 86 (ptr (h.next + 1) 0)) (h' := H2) (v := keyV m v) (by kernel_rfl) (load2 agP szP e1) ?_
    refine ok_go 0 ?_
    rcases look_ok m v (Lf f n) es ok H2 mid cl gm2 with hl | ⟨hl, hnone⟩
    · refine sy_load 0 (r := lookupOp Try.prog H2 81 (.map (some mid)) (keyV m v) true) (h' := H2) (by kernel_rfl) hl ?_
      refine ok_go 4 ?_
      exact sy_done 0 (v := J (Lf f n m v)) (h := H2) (by kernel_rfl) ⟨rfl, es, cl, ⟨⟨by omega, gb2⟩, ⟨by omega, gm2⟩, hne, ok, A.ext ⟨by omega, o2⟩⟩, New.refl m es, ⟨by omega, fun j hj _ => o2 j hj⟩⟩
    · let H3 : Hp := H2.new (.cells [I 0] 3 false)
      let H4 : Hp := H3.put (h.next + 2) (.cells [I 0] 3 false)
      have e3 : H3.get (h.next + 2) = some (.cells [I 0] 3 false) := get_new H2 _
      have e4 : H4.get (h.next + 2) = some (.cells [I 0] 3 false) := get_put _ _ _
      have n4 : H4.next = h.next + 3 := rfl
      have o4 : ∀ j, j < h.next + 2 → H4.get j = H2.get j := fun j hj => by
        simp only [H4, H3, gn, gp]
        repeat (first | rw [if_pos (by omega)] | rw [if_neg (by omega)])
      have X4 : h.Ext H4 := ⟨by omega, fun j hj => by rw [o4 j (by omega)]; exact o2 j hj⟩
      obtain ⟨_, H5, eco, rfl, X5⟩ := co H4 (A.ext X4) ⟨by omega, .map (some mid), false, by rw [o4 _ (by omega)]; exact gb2⟩
      have n5 := X5.next
      have f0 : H5.get h.next = some (.cells [ptr bd 0] 80 false) := by rw [X5.get _ (by omega), o4 _ (by omega)]; exact e0
      have f1 : H5.get (h.next + 1) = some (.cells [J m, J v] 86 false) := by rw [X5.get _ (by omega), o4 _ (by omega)]; exact e1
      have f2 : H5.get (h.next + 2) = some (.cells [I 0] 3 false) := by rw [X5.get _ (by omega)]; exact e4
      have X45 : h.Ext H5 := X4.trans X5
      have gb5 : H5.get bd = some (.cells [.slice (some ⟨b0, 0, none⟩) (2 ^ n) c, .map (some mid)] 83 false) := by rw [X45.get _ hbd]; exact gbd
      have gm5 : H5.get mid = some (.map es cl) := by rw [X45.get _ hmid]; exact gmid
      refine sy_load 0 (r := lookupOp Try.prog H2 81 (.map (some mid)) (keyV m v) true) (h' := H2) (by kernel_rfl) hl ?_
      refine ok_go 4 ?_
      refine sy_store 0 (r := storeT Try.prog H3 3 (ptr (h.next + 2) 0) (I 0)) (h' := H4) (by kernel_rfl) (store1 zI rfl e3 (show 0 < 1 by omega)) ?_
      refine ok_go 0 ?_
      refine sy_load 0 (r := loadT Try.prog H4 80 (ptr h.next 0)) (h' := H4) (v := ptr bd 0) (by kernel_rfl) (load1 (by kernel_rfl) (by rw [o4 _ (by omega)]; exact e0) rfl) ?_
      refine ok_go 0 ?_
      refine sy_load 0 (r := loadT Try.prog H4 86 (ptr (h.next + 1) 0)) (h' := H4) (v := keyV m v) (by kernel_rfl) (load2 agP szP (by rw [o4 _ (by omega)]; exact e1)) ?_
      refine ok_go 0 ?_
      refine sy_call 0 (by kernel_rfl) eco ?_
      refine ok_go 3 ?_
      refine sy_test 0 (!al (cq f m v) (2 ^ n)) (by kernel_rfl) ?_ ?_
      · intro hal
        rw [Bool.not_eq_true'] at hal
        let H6 : Hp := H5.put (h.next + 2) (.cells [J 6] 3 false)
        have g6 : H6.get (h.next + 2) = some (.cells [J 6] 3 false) := get_put _ _ _
        have o6 : ∀ j, j ≠ h.next + 2 → H6.get j = H5.get j := fun j hj => Hp.get_put_ne hj
        have n6 : H6.next = H5.next := rfl
        refine ok_go 0 ?_
        refine sy_store 0 (r := storeT Try.prog H5 3 (ptr (h.next + 2) 0) (J 6)) (h' := H6) (by kernel_rfl) (store1 zI rfl f2 (show 0 < 1 by omega)) ?_
        refine ok_go 0 ?_
        refine sy_load 0 (r := loadT Try.prog H6 80 (ptr h.next 0)) (h' := H6) (v := ptr bd 0) (by kernel_rfl) (load1 (by kernel_rfl) (by rw [o6 _ (by omega)]; exact f0) rfl) ?_
        refine ok_go 2 ?_
        refine sy_load 0 (r := loadT Try.prog H6 27 (ptr bd 0)) (h' := H6) (v := .slice (some ⟨b0, 0, none⟩) (2 ^ n) c) (by kernel_rfl) (load1 (by kernel_rfl) (by rw [o6 _ (by omega)]; exact gb5) rfl) ?_
        let SL : Value := .slice (some ⟨b0, 0, none⟩) (2 ^ n) c
        let H7 : Hp := H6.new (.cells [SL] 27 false)
        have n7 : H7.next = H5.next + 1 := rfl
        refine ok_go 1 ?_
        refine sy_range 0 (callF := evInv Try.prog orc lf (F + 2)) (P := Try.prog) (lf := lf) (m := 62) (rcOf Try.prog 52 0) H7 [(2, ptr h.next 0), (3, ptr (h.next + 1) 0), (7, ptr (h.next + 2) 0)] 96 [.func (.yield (H7.next + 1)) #[] #[], ptr H6.next 0]
          (by kernel_rfl) (fun F => by kernel_rfl) ⟨by kernel_rfl, by kernel_rfl, by kernel_rfl, trivial⟩ (by kernel_rfl) (by kernel_rfl) fun F1 f2' hr => ?_
        let HH : Hp := (rcOf Try.prog 52 0).heap F1 H7
        have nH : HH.next = H5.next + 3 := rfl
        have oH : ∀ j, j < H5.next → HH.get j = H6.get j := fun j hj => by
          simp only [HH, RC.heap, H7, gn, nn]
          repeat (first | rw [if_pos (by omega)] | rw [if_neg (by omega)])
        have HB : HH.get H5.next = some (.cells [SL] 27 false) := by
          simp only [HH, RC.heap, H7, gn, nn, n6, if_true]
          repeat (first | rw [if_pos (by omega)] | rw [if_neg (by omega)])
        have HD : HH.get (H5.next + 1) = some (.defd false) := by
          simp only [HH, RC.heap, H7, gn, nn, n6, if_true]
          repeat (first | rw [if_pos (by omega)] | rw [if_neg (by omega)])
        have HL : HH.get (H5.next + 2) = some ((rcOf Try.prog 52 0).obj F1 (H5.next + 1) .ready none) := get_new (H7.new _) _
        have Hold : ∀ j, j < h.next → HH.get j = h.get j := fun j hj => by rw [oH j (by omega), o6 j (by omega)]; exact X45.get j hj
        have Hf0 : HH.get h.next = some (.cells [ptr bd 0] 80 false) := by rw [oH _ (by omega), o6 _ (by omega)]; exact f0
        have Hf1 : HH.get (h.next + 1) = some (.cells [J m, J v] 86 false) := by rw [oH _ (by omega), o6 _ (by omega)]; exact f1
        have Hf2 : HH.get (h.next + 2) = some (.cells [J 6] 3 false) := by rw [oH _ (by omega)]; exact g6
        let Dd : Nat → Nat := fun i => 1 + max (Lf f n (m ||| 2 ^ i) v) (Lf f n (m ||| 2 ^ i) (v ||| 2 ^ i))
        have hDd : ∀ i, Dd i ≤ 7 := fun i => by
          have h1 := Lf_le f n (m ||| 2 ^ i) v
          have h2 := Lf_le f n (m ||| 2 ^ i) (v ||| 2 ^ i)
          show 1 + max _ _ ≤ 7
          omega
        let Inv : Nat → Hp → Prop := fun i r => ∃ es1 cl1, Exc [mid, h.next + 2, H5.next + 2] HH r ∧ r.get mid = some (.map es1 cl1) ∧ MapOk (Lf f n) es1 ∧ (∀ e ∈ es1, e ∈ es ∨ ∃ a b, e.key = keyV a b ∧ m &&& a = m ∧ a ≠ m) ∧ r.get (h.next + 2) = some (.cells [J (mnl n m Dd i)] 3 false) ∧ r.get (H5.next + 2) = some ((rcOf Try.prog 52 0).obj F1 (H5.next + 1) .ready none)
        have hb : ∀ i r, Inv i r → loadT Try.prog r 27 (ptr H5.next 0) = some (.slice (some ⟨b0, 0, none⟩) (2 ^ n) c) := fun i r ⟨es1, cl1, Xr, _⟩ => load1 (by kernel_rfl) (by rw [Xr.get _ (by omega) (by simp; omega)]; exact HB) rfl
        have hy : ∀ i r, i < n → Inv i r → ∃ g', evInv Try.prog orc lf (F + 1) (.yield (H5.next + 2) [J (2 ^ i)]) r = some (.bool true, g') ∧ Inv (i + 1) g' := fun i r hi ⟨es1, cl1, Xr, Mr, okr, newr, Tr7, Lr⟩ => by
          have key : ∃ w g', evInv Try.prog orc lf (F + 1) (.yield (H5.next + 2) [J (2 ^ i)]) r = some (w, g') ∧ (w = .bool true ∧ Inv (i + 1) g') := by
            refine yld_ok (c := rcOf Try.prog 52 0) (Q := fun w g' => w = .bool true ∧ Inv (i + 1) g') hr Lr (by kernel_rfl) ?_
            refine ok_go 0 ?_
            refine sy_busy 0 (by kernel_rfl) Lr ?_
            have R' : ∀ j, j ≠ H5.next + 2 → (r.put (H5.next + 2) ((rcOf Try.prog 52 0).obj F1 (H5.next + 1) .busy none)).get j = r.get j := fun j hj => Hp.get_put_ne hj
            have Rl : (r.put (H5.next + 2) ((rcOf Try.prog 52 0).obj F1 (H5.next + 1) .busy none)).get (H5.next + 2) = some ((rcOf Try.prog 52 0).obj F1 (H5.next + 1) .busy none) := get_put _ _ _
            have nr' : (r.put (H5.next + 2) ((rcOf Try.prog 52 0).obj F1 (H5.next + 1) .busy none)).next = r.next := rfl
            generalize r.put (H5.next + 2) ((rcOf Try.prog 52 0).obj F1 (H5.next + 1) .busy none) = r' at R' Rl nr' ⊢
            have nXr := Xr.next
            have K : ∀ j, j < HH.next → j ≠ mid → j ≠ h.next + 2 → j ≠ H5.next + 2 → r'.get j = HH.get j := fun j hj h1 h2 h3 => by rw [R' j h3]; exact Xr.get j hj (by simp; omega)
            have r0 : r'.get h.next = some (.cells [ptr bd 0] 80 false) := (K _ (by omega) (by omega) (by omega) (by omega)).trans Hf0
            have r1 : r'.get (h.next + 1) = some (.cells [J m, J v] 86 false) := (K _ (by omega) (by omega) (by omega) (by omega)).trans Hf1
            have r2 : r'.get (h.next + 2) = some (.cells [J (mnl n m Dd i)] 3 false) := by rw [R' _ (by omega)]; exact Tr7
            have Dr : Dm f n bd b0 c mid es1 cl1 r' := by
              refine ⟨⟨by omega, by rw [K _ (by omega) hne.1 (by omega) (by omega), Hold _ hbd]; exact gbd⟩, ⟨by omega, by rw [R' _ (by omega)]; exact Mr⟩, hne, okr, ?_⟩
              obtain ⟨o, e⟩ := A.get
              have hb0 := A.lt
              exact ⟨by omega, o, by rw [K _ (by omega) hne.2 (by omega) (by omega), Hold _ hb0]; exact e⟩
            have hpi : 2 ^ i < 2 ^ n := Nat.pow_lt_pow_right (by decide) hi
            have hand : (andI (Int.ofNat m) (Int.ofNat (2 ^ i)) == 0) = (m &&& 2 ^ i == 0) := by rw [and_nat (by omega)]; exact eq_int _ 0
            refine ok_go 1 ?_
            refine sy_load 0 (r := loadT Try.prog r' 3 (ptr (h.next + 1) 0)) (h' := r') (v := J m) (by kernel_rfl) (load1 agI r1 rfl) ?_
            refine ok_go 2 ?_
            refine sy_test 0 (andI (Int.ofNat m) (Int.ofNat (2 ^ i)) == 0) (by kernel_rfl) ?_ ?_
            · intro hz
              rw [hand] at hz
              have hz0 : m &&& 2 ^ i = 0 := eq_of_beq hz
              obtain ⟨_, q1, w1, rfl, Y1⟩ := wi i false r' hi
              have Dq1 : Dm f n bd b0 c mid es1 cl1 q1 := ⟨⟨by have := Y1.next; omega, by rw [Y1.get _ Dr.blk.1]; exact Dr.blk.2⟩, ⟨by have := Y1.next; have := Dr.mp.1; omega, by rw [Y1.get _ Dr.mp.1]; exact Dr.mp.2⟩, hne, okr, Dr.arr.ext Y1⟩
              obtain ⟨q2, es2, cl2, c1, Dq2, N2, Y2⟩ := rec_ i v hi hz0 (.inl rfl) q1 es1 cl1 Dq1
              obtain ⟨_, q3, w2, rfl, Y3⟩ := wi i true q2 hi
              have Dq3 : Dm f n bd b0 c mid es2 cl2 q3 := ⟨⟨by have := Y3.next; have := Dq2.blk.1; omega, by rw [Y3.get _ Dq2.blk.1]; exact Dq2.blk.2⟩, ⟨by have := Y3.next; have := Dq2.mp.1; omega, by rw [Y3.get _ Dq2.mp.1]; exact Dq2.mp.2⟩, hne, Dq2.ok, Dq2.arr.ext Y3⟩
              obtain ⟨q4, es4, cl4, c2, Dq4, N4, Y4⟩ := rec_ i (v ||| 2 ^ i) hi hz0 (.inr rfl) q3 es2 cl2 Dq3
              have m1 := Y1.next
              have m2 := Y2.next
              have m3 := Y3.next
              have m4 := Y4.next
              have k1 : ∀ j, j < r'.next → q1.get j = r'.get j := fun j hj => Y1.get j hj
              have k2 : ∀ j, j < r'.next → j ≠ mid → q2.get j = r'.get j := fun j hj h1 => by rw [Y2.get j (by omega) (by simpa using h1)]; exact k1 j hj
              have k3 : ∀ j, j < r'.next → j ≠ mid → q3.get j = r'.get j := fun j hj h1 => by rw [Y3.get j (by omega)]; exact k2 j hj h1
              have k4 : ∀ j, j < r'.next → j ≠ mid → q4.get j = r'.get j := fun j hj h1 => by rw [Y4.get j (by omega) (by simpa using h1)]; exact k3 j hj h1
              have t4 : q4.get (h.next + 2) = some (.cells [J (mnl n m Dd i)] 3 false) := by rw [k4 _ (by omega) (by omega)]; exact r2
              have hw4 : IntKind.i64.wrap (1 + (if Int.ofNat (Lf f n (m ||| 2 ^ i) (v ||| 2 ^ i)) > Int.ofNat (Lf f n (m ||| 2 ^ i) v) then Int.ofNat (Lf f n (m ||| 2 ^ i) (v ||| 2 ^ i)) else Int.ofNat (Lf f n (m ||| 2 ^ i) v))) = Int.ofNat (Dd i) := by
                have h1 := hDd i
                rw [max_nat]
                show IntKind.i64.wrap (1 + Int.ofNat (max (Lf f n (m ||| 2 ^ i) v) (Lf f n (m ||| 2 ^ i) (v ||| 2 ^ i)))) = Int.ofNat (Dd i)
                rw [show (1 : Int) + Int.ofNat (max (Lf f n (m ||| 2 ^ i) v) (Lf f n (m ||| 2 ^ i) (v ||| 2 ^ i))) = Int.ofNat (Dd i) from by
                  show (1 : Int) + ((max (Lf f n (m ||| 2 ^ i) v) (Lf f n (m ||| 2 ^ i) (v ||| 2 ^ i)) : Nat) : Int) = ((1 + max (Lf f n (m ||| 2 ^ i) v) (Lf f n (m ||| 2 ^ i) (v ||| 2 ^ i)) : Nat) : Int)
                  omega, wrap_nat (by omega)]
              refine ok_go 0 ?_
              refine sy_load 0 (r := loadT Try.prog r' 3 (ptr (h.next + 2) 0)) (h' := r') (v := J (mnl n m Dd i)) (by kernel_rfl) (load1 agI r2 rfl) ?_
              refine ok_go 0 ?_
              refine sy_load 0 (r := loadT Try.prog r' 80 (ptr h.next 0)) (h' := r') (v := ptr bd 0) (by kernel_rfl) (load1 (by kernel_rfl) r0 rfl) ?_
              refine ok_go 0 ?_
              refine sy_load 0 (r := loadT Try.prog r' 86 (ptr (h.next + 1) 0)) (h' := r') (v := keyV m v) (by kernel_rfl) (load2 agP szP r1) ?_
              refine ok_go 0 ?_
              refine sy_call 0 (by kernel_rfl) w1 ?_
              refine ok_go 0 ?_
              refine sy_call 0 (by kernel_rfl) c1 ?_
              refine ok_go 0 ?_
              refine sy_load 0 (r := loadT Try.prog q2 80 (ptr h.next 0)) (h' := q2) (v := ptr bd 0) (by kernel_rfl) (load1 (by kernel_rfl) (by rw [k2 _ (by omega) (by omega)]; exact r0) rfl) ?_
              refine ok_go 0 ?_
              refine sy_load 0 (r := loadT Try.prog q2 86 (ptr (h.next + 1) 0)) (h' := q2) (v := keyV m v) (by kernel_rfl) (load2 agP szP (by rw [k2 _ (by omega) (by omega)]; exact r1)) ?_
              refine ok_go 0 ?_
              refine sy_call 0 (by kernel_rfl) w2 ?_
              refine ok_go 0 ?_
              refine sy_call 0 (by kernel_rfl) c2 ?_
              have hv7 : (if IntKind.i64.wrap (1 + (if Int.ofNat (Lf f n (m ||| 2 ^ i) (v ||| 2 ^ i)) > Int.ofNat (Lf f n (m ||| 2 ^ i) v) then Int.ofNat (Lf f n (m ||| 2 ^ i) (v ||| 2 ^ i)) else Int.ofNat (Lf f n (m ||| 2 ^ i) v))) < Int.ofNat (mnl n m Dd i) then IntKind.i64.wrap (1 + (if Int.ofNat (Lf f n (m ||| 2 ^ i) (v ||| 2 ^ i)) > Int.ofNat (Lf f n (m ||| 2 ^ i) v) then Int.ofNat (Lf f n (m ||| 2 ^ i) (v ||| 2 ^ i)) else Int.ofNat (Lf f n (m ||| 2 ^ i) v))) else Int.ofNat (mnl n m Dd i)) = Int.ofNat (mnl n m Dd (i + 1)) := by
                rw [hw4, mnl, if_pos hz]
                rcases Nat.lt_or_ge (Dd i) (mnl n m Dd i) with h1 | h1
                · rw [if_pos (show Int.ofNat (Dd i) < Int.ofNat (mnl n m Dd i) from Int.ofNat_lt.2 h1), Nat.min_eq_right (by omega)]
                · rw [if_neg (fun h => by have := Int.ofNat_lt.1 h; omega), Nat.min_eq_left h1]
              have hvJ := congrArg (Value.int .i64) hv7
              let q5 : Hp := q4.put (h.next + 2) (.cells [J (mnl n m Dd (i + 1))] 3 false)
              have P5 : ∀ j, j ≠ h.next + 2 → q5.get j = q4.get j := fun j hj => Hp.get_put_ne hj
              have t5 : q5.get (h.next + 2) = some (.cells [J (mnl n m Dd (i + 1))] 3 false) := get_put _ _ _
              have n5' : q5.next = q4.next := rfl
              refine ok_go 3 ?_
              refine sy_store 0 (r := storeT Try.prog q4 3 (ptr (h.next + 2) 0) (J (mnl n m Dd (i + 1)))) (h' := q5) (by rw [show J (mnl n m Dd (i + 1)) = Value.int .i64 (Int.ofNat (mnl n m Dd (i + 1))) from rfl, ← hvJ]; kernel_rfl) (store1 zI rfl t4 (show 0 < 1 by omega)) ?_
              refine ok_go 0 ?_
              have a1 : q1.get (h.next + 2) = some (.cells [J (mnl n m Dd i)] 3 false) := by rw [k1 _ (by omega)]; exact r2
              have a2 : q2.get (h.next + 2) = some (.cells [J (mnl n m Dd i)] 3 false) := by rw [k2 _ (by omega) (by omega)]; exact r2
              have a3 : q3.get (h.next + 2) = some (.cells [J (mnl n m Dd i)] 3 false) := by rw [k3 _ (by omega) (by omega)]; exact r2
              have b1 : q1.get h.next = some (.cells [ptr bd 0] 80 false) := by rw [k1 _ (by omega)]; exact r0
              have b3 : q3.get h.next = some (.cells [ptr bd 0] 80 false) := by rw [k3 _ (by omega) (by omega)]; exact r0
              have d1 : q1.get (h.next + 1) = some (.cells [J m, J v] 86 false) := by rw [k1 _ (by omega)]; exact r1
              refine sy_need 0 [] [⟨(loadT Try.prog q1 3 (ptr (h.next + 2) 0)).map (·, q1), J (mnl n m Dd i), q1⟩,
                ⟨(loadT Try.prog q2 3 (ptr (h.next + 2) 0)).map (·, q2), J (mnl n m Dd i), q2⟩,
                ⟨(loadT Try.prog q3 3 (ptr (h.next + 2) 0)).map (·, q3), J (mnl n m Dd i), q3⟩,
                ⟨(loadT Try.prog q4 3 (ptr (h.next + 2) 0)).map (·, q4), J (mnl n m Dd i), q4⟩,
                ⟨(loadT Try.prog q1 80 (ptr h.next 0)).map (·, q1), ptr bd 0, q1⟩,
                ⟨(loadT Try.prog r' 80 (ptr h.next 0)).map (·, r'), ptr bd 0, r'⟩,
                ⟨(loadT Try.prog q1 80 (ptr h.next 0)).map (·, q1), ptr bd 0, q1⟩,
                ⟨(loadT Try.prog q3 80 (ptr h.next 0)).map (·, q3), ptr bd 0, q3⟩,
                ⟨(loadT Try.prog r' 86 (ptr (h.next + 1) 0)).map (·, r'), keyV m v, r'⟩,
                ⟨(loadT Try.prog q1 86 (ptr (h.next + 1) 0)).map (·, q1), keyV m v, q1⟩] (by kernel_rfl)
                ⟨by show (loadT Try.prog q1 3 (ptr (h.next + 2) 0)).map (·, q1) = some (J (mnl n m Dd i), q1); rw [load1 (v := J (mnl n m Dd i)) agI a1 rfl]; rfl,
                by show (loadT Try.prog q2 3 (ptr (h.next + 2) 0)).map (·, q2) = some (J (mnl n m Dd i), q2); rw [load1 (v := J (mnl n m Dd i)) agI a2 rfl]; rfl,
                by show (loadT Try.prog q3 3 (ptr (h.next + 2) 0)).map (·, q3) = some (J (mnl n m Dd i), q3); rw [load1 (v := J (mnl n m Dd i)) agI a3 rfl]; rfl,
                by show (loadT Try.prog q4 3 (ptr (h.next + 2) 0)).map (·, q4) = some (J (mnl n m Dd i), q4); rw [load1 (v := J (mnl n m Dd i)) agI t4 rfl]; rfl,
                by show (loadT Try.prog q1 80 (ptr h.next 0)).map (·, q1) = some (ptr bd 0, q1); rw [load1 (v := ptr bd 0) (by kernel_rfl) b1 rfl]; rfl,
                by show (loadT Try.prog r' 80 (ptr h.next 0)).map (·, r') = some (ptr bd 0, r'); rw [load1 (v := ptr bd 0) (by kernel_rfl) r0 rfl]; rfl,
                by show (loadT Try.prog q1 80 (ptr h.next 0)).map (·, q1) = some (ptr bd 0, q1); rw [load1 (v := ptr bd 0) (by kernel_rfl) b1 rfl]; rfl,
                by show (loadT Try.prog q3 80 (ptr h.next 0)).map (·, q3) = some (ptr bd 0, q3); rw [load1 (v := ptr bd 0) (by kernel_rfl) b3 rfl]; rfl,
                by show (loadT Try.prog r' 86 (ptr (h.next + 1) 0)).map (·, r') = some (keyV m v, r'); rw [load2 agP szP r1]; rfl,
                by show (loadT Try.prog q1 86 (ptr (h.next + 1) 0)).map (·, q1) = some (keyV m v, q1); rw [load2 agP szP d1]; rfl, trivial⟩ ?_
              have Rl5 : q5.get (H5.next + 2) = some ((rcOf Try.prog 52 0).obj F1 (H5.next + 1) .busy none) := by rw [P5 _ (by omega), k4 _ (by omega) (by omega)]; exact Rl
              have g5 := Dq4.blk.1
              have neq : ∀ i, m &&& 2 ^ i = 0 → ∀ a, (m ||| 2 ^ i) &&& a = m ||| 2 ^ i → m &&& a = m ∧ a ≠ m := fun i hz a ha => by
                refine ⟨sb_iff.2 fun j hj => sb_iff.1 ha j (by rw [Nat.testBit_or, hj]; rfl), fun hc => ?_⟩
                have h1 := sb_iff.1 ha i (by rw [Nat.testBit_or, Nat.testBit_two_pow_self, Bool.or_true])
                rw [hc, (and_bit m i).1 hz] at h1
                cases h1
              have new4 : ∀ e ∈ es4, e ∈ es ∨ ∃ a b, e.key = keyV a b ∧ m &&& a = m ∧ a ≠ m := fun e he => by
                rcases N4 e he with h1 | ⟨a, b, h1, h2⟩
                · rcases N2 e h1 with h1 | ⟨a, b, h1, h2⟩
                  · exact newr e h1
                  · exact .inr ⟨a, b, h1, neq i hz0 a h2⟩
                · exact .inr ⟨a, b, h1, neq i hz0 a h2⟩
              refine ok_go 0 ?_
              refine sy_round 0 (by kernel_rfl) Rl5 ?_
              refine ok_go 0 ?_
              refine sy_done 0 (v := .bool true) (h := q5.put (H5.next + 2) ((rcOf Try.prog 52 0).obj F1 (H5.next + 1) .ready none)) (by kernel_rfl) ⟨rfl, es4, cl4, ⟨by show HH.next ≤ q4.next; omega, fun j hj hm' => ?_⟩, ?_, Dq4.ok, new4, ?_, get_put _ _ _⟩
              · have hm'' : j ≠ mid ∧ j ≠ h.next + 2 ∧ j ≠ H5.next + 2 := by simpa using hm'
                rw [Hp.get_put_ne hm''.2.2, P5 _ hm''.2.1, k4 _ (by omega) hm''.1]; exact K j hj hm''.1 hm''.2.1 hm''.2.2
              · rw [Hp.get_put_ne (by omega), P5 _ (by omega)]; exact Dq4.mp.2
              · rw [Hp.get_put_ne (by omega)]; exact t5
            · intro hz
              rw [hand] at hz
              refine ok_go 0 ?_
              refine sy_round 0 (by kernel_rfl) Rl ?_
              refine ok_go 0 ?_
              refine sy_done 0 (v := .bool true) (h := r'.put (H5.next + 2) ((rcOf Try.prog 52 0).obj F1 (H5.next + 1) .ready none)) (by kernel_rfl) ⟨rfl, es1, cl1, ⟨by show _ ≤ r'.next; omega, fun j hj hm' => ?_⟩, ?_, okr, newr, ?_, get_put _ _ _⟩
              · have hm'' : j ≠ mid ∧ j ≠ h.next + 2 ∧ j ≠ H5.next + 2 := by simpa using hm'
                rw [Hp.get_put_ne hm''.2.2]; exact K j hj hm''.1 hm''.2.1 hm''.2.2
              · rw [Hp.get_put_ne (by omega), R' _ (by omega)]; exact Mr
              · rw [Hp.get_put_ne (by omega), mnl, if_neg (by rw [hz]; decide)]; exact r2
          obtain ⟨w, g', e, rfl, hI⟩ := key
          exact ⟨g', e, hI⟩
        obtain ⟨w, h3, ev, hI3⟩ := single_run n (by omega) lf (F + 1) H5.next (H5.next + 2) hlf (some ⟨b0, 0, none⟩) c Inv (fun _ => False) hb (fun i q hi hq => .inl (hy i q hi hq)) (h := HH)
          ⟨es, cl, ⟨Nat.le_refl _, fun _ _ _ => rfl⟩, by rw [Hold _ hmid]; exact gmid, ok, fun e he => .inl he, Hf2, HL⟩
        obtain ⟨es1, cl1, X3, M3, ok3, new3, T3, L3⟩ := hI3.resolve_right id
        refine ⟨w, h3, .ready, none, H5.next + 1, .normal, ev, L3, by decide, rfl, ?_⟩
        have nX3 := X3.next
        let h4 : Hp := h3.put (H5.next + 2) ((rcOf Try.prog 52 0).obj F1 (H5.next + 1) .exhausted none)
        have P4 : ∀ j, j ≠ H5.next + 2 → h4.get j = h3.get j := fun j hj => Hp.get_put_ne hj
        have K4 : ∀ j, j < HH.next → j ≠ mid → j ≠ h.next + 2 → j ≠ H5.next + 2 → h4.get j = HH.get j := fun j hj h1 h2 h3' => by rw [P4 j h3']; exact X3.get j hj (by simp; omega)
        have n4' : h4.next = h3.next := rfl
        have f0T : h4.get h.next = some (.cells [ptr bd 0] 80 false) := (K4 _ (by omega) (by omega) (by omega) (by omega)).trans Hf0
        have f1T : h4.get (h.next + 1) = some (.cells [J m, J v] 86 false) := (K4 _ (by omega) (by omega) (by omega) (by omega)).trans Hf1
        have f2T : h4.get (h.next + 2) = some (.cells [J (mnl n m Dd n)] 3 false) := by rw [P4 _ (by omega)]; exact T3
        have gbT : h4.get bd = some (.cells [.slice (some ⟨b0, 0, none⟩) (2 ^ n) c, .map (some mid)] 83 false) := by rw [K4 _ (by omega) hne.1 (by omega) (by omega), Hold _ hbd]; exact gbd
        have gmT : h4.get mid = some (.map es1 cl1) := by rw [P4 _ (by omega)]; exact M3
        have okT := ok3
        have keyT : ∀ e ∈ es1, e.key ≠ keyV m v := fun e he hc => by
          rcases new3 e he with h1 | ⟨a, b, h1, _, h2⟩
          · exact hnone e h1 hc
          · rw [h1] at hc; exact h2 (key_inj hc).1
        have newT : New m es es1 := fun e he => by
          rcases new3 e he with h1 | ⟨a, b, h1, h2, _⟩
          · exact .inl h1
          · exact .inr ⟨a, b, h1, h2⟩
        have hVL : mnl n m Dd n = Lf f n m v := by rw [Lf_eq f n m v hm, if_neg (by rw [hal]; decide)]
        have hup := upd_ok m v (Lf f n) es1 okT keyT h4 mid cl1 gmT (J (mnl n m Dd n))
        have gt7 : (h4.put mid (.map (es1 ++ [{ key := keyV m v, val := J (mnl n m Dd n), born := cl1 }]) (cl1 + 1))).get (h.next + 2) = some (.cells [J (mnl n m Dd n)] 3 false) := by rw [Hp.get_put_ne (by omega)]; exact f2T
        refine ok_go 0 ?_
        refine sy_load 0 (r := loadT Try.prog h4 80 (ptr h.next 0)) (h' := h4) (v := ptr bd 0) (by kernel_rfl) (load1 (by kernel_rfl) f0T rfl) ?_
        refine ok_go 2 ?_
        refine sy_load 0 (r := loadT Try.prog h4 81 (ptr bd 1)) (h' := h4) (v := .map (some mid)) (by kernel_rfl) (load1 (by kernel_rfl) gbT rfl) ?_
        refine ok_go 0 ?_
        refine sy_load 0 (r := loadT Try.prog h4 86 (ptr (h.next + 1) 0)) (h' := h4) (v := keyV m v) (by kernel_rfl) (load2 agP szP f1T) ?_
        refine ok_go 0 ?_
        refine sy_load 0 (r := loadT Try.prog h4 3 (ptr (h.next + 2) 0)) (h' := h4) (v := J (mnl n m Dd n)) (by kernel_rfl) (load1 agI f2T rfl) ?_
        refine ok_go 0 ?_
        refine sy_store 0 (r := mapUpdateOp Try.prog h4 81 (.map (some mid)) (keyV m v) (J (mnl n m Dd n))) (h' := h4.put mid (.map (es1 ++ [{ key := keyV m v, val := J (mnl n m Dd n), born := cl1 }]) (cl1 + 1))) (by kernel_rfl) hup ?_
        refine ok_go 0 ?_
        refine sy_load 0 (r := loadT Try.prog (h4.put mid (.map (es1 ++ [{ key := keyV m v, val := J (mnl n m Dd n), born := cl1 }]) (cl1 + 1))) 3 (ptr (h.next + 2) 0)) (h' := h4.put mid (.map (es1 ++ [{ key := keyV m v, val := J (mnl n m Dd n), born := cl1 }]) (cl1 + 1))) (v := J (mnl n m Dd n)) (by kernel_rfl) (load1 agI gt7 rfl) ?_
        have okN : MapOk (Lf f n) (es1 ++ [{ key := keyV m v, val := J (mnl n m Dd n), born := cl1 }]) := fun e he => by
          rcases List.mem_append.1 he with h1 | h1
          · exact okT e h1
          · have h1 : e = _ := List.mem_singleton.1 h1
            rw [h1]
            exact ⟨m, v, rfl, by rw [hVL]⟩
        have newN : New m es (es1 ++ [{ key := keyV m v, val := J (mnl n m Dd n), born := cl1 }]) := fun e he => by
          rcases List.mem_append.1 he with h1 | h1
          · exact newT e h1
          · have h1 : e = _ := List.mem_singleton.1 h1
            rw [h1]
            exact .inr ⟨m, v, rfl, Nat.and_self m⟩
        refine ok_go 0 ?_
        refine sy_marks 0 (h := h4.put mid (.map (es1 ++ [{ key := keyV m v, val := J (mnl n m Dd n), born := cl1 }]) (cl1 + 1))) [H5.next + 1] (by kernel_rfl) (by simp) (fun d hd => ?_) fun h9 n9 o9 => ?_
        · have hd : d = H5.next + 1 := by simpa using hd
          subst hd
          rw [Hp.get_put_ne (by omega), K4 _ (by omega) (by omega) (by omega) (by omega)]; exact HD
        refine ok_go 0 ?_
        refine sy_done 0 (v := J (mnl n m Dd n)) (h := h9) (by kernel_rfl) ⟨by rw [hVL], _, _, ⟨⟨?_, ?_⟩, ⟨?_, (o9 mid (by simp; omega)).trans (get_put _ _ _)⟩, hne, okN, ?_⟩, newN, ⟨?_, fun j hj hm' => ?_⟩⟩
        · rw [n9]; show bd < h3.next; omega
        · rw [o9 _ (by simp; omega), Hp.get_put_ne hne.1]; exact gbT
        · rw [n9]; show mid < h3.next; omega
        · obtain ⟨o, e⟩ := A.get
          have hb0 := A.lt
          refine ⟨by rw [n9]; show b0 < h3.next; omega, o, ?_⟩
          rw [o9 _ (by simp; omega), Hp.get_put_ne hne.2, K4 _ (by omega) hne.2 (by omega) (by omega), Hold _ hb0]; exact e
        · rw [n9]; show h.next ≤ h3.next; omega
        · have hm'' : j ≠ mid := by simpa using hm'
          rw [o9 _ (by simp; omega), Hp.get_put_ne hm'', K4 _ (by omega) hm'' (by omega) (by omega)]; exact Hold j hj
      · intro hal
        rw [Bool.not_eq_false'] at hal
        have f0T := f0
        have f1T := f1
        have f2T := f2
        have gbT := gb5
        have gmT := gm5
        have okT := ok
        have keyT := hnone
        have newT := New.refl m es
        have hVL : 0 = Lf f n m v := by rw [Lf_eq f n m v hm, if_pos hal]
        have hup := upd_ok m v (Lf f n) es okT keyT H5 mid cl gmT (J 0)
        have gt7 : (H5.put mid (.map (es ++ [{ key := keyV m v, val := J 0, born := cl }]) (cl + 1))).get (h.next + 2) = some (.cells [J 0] 3 false) := by rw [Hp.get_put_ne (by omega)]; exact f2T
        refine ok_go 0 ?_
        refine sy_load 0 (r := loadT Try.prog H5 80 (ptr h.next 0)) (h' := H5) (v := ptr bd 0) (by kernel_rfl) (load1 (by kernel_rfl) f0T rfl) ?_
        refine ok_go 2 ?_
        refine sy_load 0 (r := loadT Try.prog H5 81 (ptr bd 1)) (h' := H5) (v := .map (some mid)) (by kernel_rfl) (load1 (by kernel_rfl) gbT rfl) ?_
        refine ok_go 0 ?_
        refine sy_load 0 (r := loadT Try.prog H5 86 (ptr (h.next + 1) 0)) (h' := H5) (v := keyV m v) (by kernel_rfl) (load2 agP szP f1T) ?_
        refine ok_go 0 ?_
        refine sy_load 0 (r := loadT Try.prog H5 3 (ptr (h.next + 2) 0)) (h' := H5) (v := J 0) (by kernel_rfl) (load1 agI f2T rfl) ?_
        refine ok_go 0 ?_
        refine sy_store 0 (r := mapUpdateOp Try.prog H5 81 (.map (some mid)) (keyV m v) (J 0)) (h' := H5.put mid (.map (es ++ [{ key := keyV m v, val := J 0, born := cl }]) (cl + 1))) (by kernel_rfl) hup ?_
        refine ok_go 0 ?_
        refine sy_load 0 (r := loadT Try.prog (H5.put mid (.map (es ++ [{ key := keyV m v, val := J 0, born := cl }]) (cl + 1))) 3 (ptr (h.next + 2) 0)) (h' := H5.put mid (.map (es ++ [{ key := keyV m v, val := J 0, born := cl }]) (cl + 1))) (v := J 0) (by kernel_rfl) (load1 agI gt7 rfl) ?_
        have okN : MapOk (Lf f n) (es ++ [{ key := keyV m v, val := J 0, born := cl }]) := fun e he => by
          rcases List.mem_append.1 he with h1 | h1
          · exact okT e h1
          · have h1 : e = _ := List.mem_singleton.1 h1
            rw [h1]
            exact ⟨m, v, rfl, by rw [hVL]⟩
        have newN : New m es (es ++ [{ key := keyV m v, val := J 0, born := cl }]) := fun e he => by
          rcases List.mem_append.1 he with h1 | h1
          · exact newT e h1
          · have h1 : e = _ := List.mem_singleton.1 h1
            rw [h1]
            exact .inr ⟨m, v, rfl, Nat.and_self m⟩
        refine ok_go 1 ?_
        refine sy_done 0 (v := J 0) (h := H5.put mid (.map (es ++ [{ key := keyV m v, val := J 0, born := cl }]) (cl + 1))) (by kernel_rfl) ⟨by rw [hVL], _, _, ⟨⟨by show bd < H5.next; omega, by rw [Hp.get_put_ne hne.1]; exact gb5⟩, ⟨by show mid < H5.next; omega, get_put _ _ _⟩, hne, okN, ?_⟩, newN, ⟨by show h.next ≤ H5.next; omega, fun j hj hm' => ?_⟩⟩
        · obtain ⟨o, e⟩ := A.get
          have hb0 := A.lt
          exact ⟨by show b0 < H5.next; omega, o, by rw [Hp.get_put_ne hne.2, X45.get _ hb0]; exact e⟩
        · rw [Hp.get_put_ne (by simpa using hm')]; exact X45.get j hj
  obtain ⟨y, h', e, rfl, es', cl', r⟩ := main
  exact ⟨h', es', cl', e, r⟩
end Go.Proofs.Ytnfboopfpkaeaaa
/- HuangC: contracts of functions. -/
namespace Go.Proofs.Ytnfboopfpkaeaaa
open Go Go.Eng Nim
set_option maxRecDepth 100000
set_option maxHeartbeats 4000000
theorem least_all (f : Nat → Bool) (n : Nat) (hn : n ≤ 5) (lf bd b0 c mid : Nat) (hlf : 300 ≤ lf) : ∀ d k m v, m < 2 ^ n → v < 2 ^ n → 2 ^ n - m ≤ d → Least f n lf (3 * d + k + 1) bd b0 c mid m v
  | 0, k, m, v, hm, _, h => by omega
  | d + 1, k, m, v, hm, hv, h => by
    have hp32 : 2 ^ n ≤ 32 := Nat.pow_le_pow_right (n := 2) (by decide) hn
    have hi2 : ∀ i, i < n → 2 ^ i < 2 ^ n := fun i hi => Nat.pow_lt_pow_right (by decide) hi
    rw [show 3 * (d + 1) + k + 1 = (3 * d + k + 1) + 3 by omega]
    refine least_of f n hn lf bd b0 c mid hlf (3 * d + k + 1) m v hm hv (fun h A D => const_of f (2 ^ n) (by omega) lf (3 * d + k + 2) hlf b0 c bd m v hv (by omega) h A D)
      (fun i s h hi => with_of lf (3 * d + k) m v (2 ^ i) s (by omega) (by omega) (by have := hi2 i hi; omega) h) fun i w hi hz hw => ?_
    have h1 := or_gt hz
    have h2 : m ||| 2 ^ i < 2 ^ n := or_small hm (hi2 i hi)
    have h3 : w < 2 ^ n := by
      rcases hw with rfl | rfl
      · exact hv
      · exact or_small hv (hi2 i hi)
    exact least_all f n hn lf bd b0 c mid hlf d k _ w h2 h3 (by omega)
theorem few_of (n : Nat) (hn : n ≤ 5) (lf m : Nat) (a : Option Addr) (c : Nat) (h : Hp) (ck : Ev lf m 54 [.slice a (2 ^ n) c] h = some (J 0, h)) : Ev lf (m + 1) 51 [.slice a (2 ^ n) c, J 5] h = some (J 0, h) := by
  have hp32 : 2 ^ n ≤ 32 := Nat.pow_le_pow_right (n := 2) (by decide) hn
  refine fn_eq ?_
  generalize hN : 2 ^ n = N at *
  refine ok_go 0 ?_
  refine sy_call 0 (by kernel_rfl) ck ?_
  refine ok_go 6 ?_
  refine sy_no 0 (b := decide (Int.ofNat N > 32)) (by kernel_rfl) (decide_eq_false (by show ¬ ((32 : Int) < (N : Int)); omega)) ?_
  refine ok_go 0 ?_
  exact sy_done 0 (v := J 0) (h := h) (by kernel_rfl) ⟨rfl, rfl⟩
theorem depth_of (f : Nat → Bool) (n : Nat) (lf m : Nat) (b0 c : Nat) (h : Hp) (A : ArB b0 (2 ^ n) f h)
    (fe : ∀ h, Ev lf m 51 [.slice (some ⟨b0, 0, none⟩) (2 ^ n) c, J 5] h = some (J 0, h))
    (le : ∀ bd mid, Least f n lf m bd b0 c mid 0 0) : ∃ v h', Ev lf (m + 1) 12 [.slice (some ⟨b0, 0, none⟩) (2 ^ n) c] h = some (v, h') ∧ v = .tuple #[J (Lf f n 0 0), J 0] ∧ h.Ext h' := by
  refine fnS_ok (Q := fun v h' => v = .tuple #[J (Lf f n 0 0), J 0] ∧ h.Ext h') ?_
  have hb0 := A.lt
  let H1 : Hp := h.new (.map [] 0)
  let H2 : Hp := H1.new (.cells [.slice (some ⟨b0, 0, none⟩) (2 ^ n) c, .map (some h.next)] 83 false)
  refine ok_go 0 ?_
  refine sy_call 0 (by kernel_rfl) (fe h) ?_
  have X2 : h.Ext H2 := (Hp.Ext.new h _).trans (Hp.Ext.new H1 _)
  have g1 : H2.get h.next = some (.map [] 0) := by
    show (H1.new _).get h.next = _
    rw [Hp.get_new_ne (show h.next ≠ H1.next from Nat.ne_of_lt (Nat.lt_succ_self _))]
    exact get_new h _
  have D : Dm f n (h.next + 1) b0 c h.next [] 0 H2 := ⟨⟨by show h.next + 1 < h.next + 2; omega, get_new H1 _⟩, ⟨by show h.next < h.next + 2; omega, g1⟩, ⟨by omega, by omega⟩, fun e he => absurd he List.not_mem_nil, A.ext X2⟩
  obtain ⟨h', es', cl', e, D', _, X'⟩ := le (h.next + 1) h.next H2 [] 0 D
  refine ok_go 6 ?_
  refine sy_call 0 (by kernel_rfl) e ?_
  refine ok_go 0 ?_
  exact sy_done 0 (v := .tuple #[J (Lf f n 0 0), J 0]) (h := h') (by kernel_rfl) ⟨rfl, by have h1 := X'.next; have h2 := X2.next; omega, fun j hj => by rw [X'.get j (by have := X2.next; omega) (by simp; omega)]; exact X2.get j hj⟩
end Go.Proofs.Ytnfboopfpkaeaaa
/- HuangD: contracts of functions. -/
namespace Go.Proofs.Ytnfboopfpkaeaaa
open Go Go.Eng Nim
set_option maxRecDepth 100000
set_option maxHeartbeats 4000000
/-- The degree, by the program. -/
def dgF (f : Nat → Bool) (n : Nat) : Nat := dg (trn (up fun a b => b - a) n (num f)) (2 ^ n)
/-- What the law says of a function. -/
structure HuangLaw (f : Nat → Bool) (n : Nat) (B : Nat) : Prop where
  sb : mz (fun x => sp f x n) (2 ^ n) ≤ Int.ofNat B
  bc : Int.ofNat B ≤ mz (cp f (2 ^ n)) (2 ^ n)
  cd : mz (cp f (2 ^ n)) (2 ^ n) ≤ Int.ofNat (Lf f n 0 0)
  gd : dgF f n ≤ Lf f n 0 0
  gs : Int.ofNat (dgF f n) ≤ mz (fun x => sp f x n) (2 ^ n) * mz (fun x => sp f x n) (2 ^ n)
  cs : mz (cp f (2 ^ n)) (2 ^ n) ≤ mz (fun x => sp f x n) (2 ^ n) * Int.ofNat B
structure UpH (lf m : Nat) : Prop where
  U : UpS lf m
  dgr : ∀ f n b c h, n ≤ 6 → ArB b (2 ^ n) f h → ∃ x h', Ev lf m 24 [.slice (some ⟨b, 0, none⟩) (2 ^ n) c] h = some (x, h') ∧ x = .tuple #[J (dgF f n), J 0] ∧ h.Ext h'
  dep : ∀ f n b c h, n ≤ 5 → ArB b (2 ^ n) f h → ∃ v h', Ev lf m 12 [.slice (some ⟨b, 0, none⟩) (2 ^ n) c] h = some (v, h') ∧ v = .tuple #[J (Lf f n 0 0), J 0] ∧ h.Ext h'
theorem upH (k : Nat) : UpH 100000 (k + 160) where
  U := upS (k + 100)
  dgr := fun f n b c h hn A => (upper5 (k + 120)).dgr f n b c h hn A
  dep := fun f n b c h hn A => by
    have hp32 : 2 ^ n ≤ 32 := Nat.pow_le_pow_right (n := 2) (by decide) hn
    have hp0 := Nat.two_pow_pos n
    exact depth_of f n 100000 (k + 159) b c h A (fun h => few_of n hn 100000 (k + 158) (some ⟨b, 0, none⟩) c h (check_of n (some ⟨b, 0, none⟩) c 100000 (k + 157) h fun h => size_of n (by omega) (k + 147) h))
      fun bd mid => by
        have e := least_all f n hn 100000 bd b c mid (by decide) 32 (k + 62) 0 0 hp0 hp0 (by omega)
        rwa [show 3 * 32 + (k + 62) + 1 = k + 159 by omega] at e
theorem mz_sp_le (f : Nat → Bool) (n : Nat) : ∀ k, mz (fun x => sp f x n) k ≤ n
  | 0 => by show (0 : Int) ≤ (n : Int); omega
  | k + 1 => by
    have h1 := mz_sp_le f n k
    have h2 := (sp_le f k n).2
    show max (mz (fun x => sp f x n) k) (sp f k n) ≤ (n : Int)
    omega
theorem s7 (pl : ∀ (f : Nat → Bool) (n : Nat), n ≤ 5 → ∀ x B, x < 2 ^ n → (bk f (2 ^ n) x).length = B → (∀ y, y < 2 ^ n → (bk f (2 ^ n) y).length ≤ B) → HuangLaw f n B) (x a0 a1 : Int) (lf m : Nat) (U : UpH lf m) (h : Hp) : ∃ H, Ev lf (m + 1) 7 [.int .u64 x, .agg #[I a0, I a1]] h = some (.bool true, H) := by
  obtain ⟨n, hn, bt⟩ := U.U.b5 a0
  have hp64 : 2 ^ n ≤ 64 := Nat.pow_le_pow_right (n := 2) (by decide) (show n ≤ 6 by omega)
  refine fn_val ?_
  have X0 : h.Ext (h.new (.cells [I a0, I a1] 49 false)) := Hp.Ext.new _ _
  have gx := get_new h (.cells [I a0, I a1] 49 false)
  have nx : (h.new (.cells [I a0, I a1] 49 false)).next = h.next + 1 := rfl
  generalize hX : h.new (.cells [I a0, I a1] 49 false) = X at X0 gx nx
  refine ok_go 2 ?_
  refine sy_load 0 (r := loadT Try.prog (h.new (.cells [I a0, I a1] 49 false)) 3 (ptr h.next 0)) (h' := (h.new (.cells [I a0, I a1] 49 false))) (by kernel_rfl) (by rw [hX]; exact load1 agI gx rfl) ?_
  rw [hX]
  refine ok_go 0 ?_
  refine sy_call 0 (by kernel_rfl) (bt X) ?_
  refine ok_go 1 ?_
  refine sy_load 0 (r := loadT Try.prog X 3 (ptr h.next 1)) (h' := X) (by kernel_rfl) (load1 agI gx rfl) ?_
  obtain ⟨_, h1, e1, b, f, rfl, hb, X1, A1⟩ := U.U.tb x n a1 X (by omega)
  refine ok_go 0 ?_
  refine sy_call 0 (by kernel_rfl) e1 ?_
  refine ok_go 0 ?_
  refine sy_need 0 [3] [⟨some (Eng.undef, X), Eng.undef, X⟩] (by kernel_rfl) ⟨rfl, trivial⟩ ?_
  obtain ⟨_, h2, e2, rfl, X2⟩ := U.U.se f n b (2 * 2 ^ n) h1 (by omega) A1
  obtain ⟨_, h3, e3, at0, l, ys, rfl, hat0, K, hall, X3⟩ := U.U.bks f n b (2 * 2 ^ n) h2 (by omega) (A1.ext X2)
  have A3 := A1.ext (X2.trans X3)
  have e4 := U.U.ces f n b (2 * 2 ^ n) h3 (by omega) A3
  obtain ⟨_, h5, e5, rfl, X5⟩ := U.dep f n b (2 * 2 ^ n) h3 hn A3
  obtain ⟨_, h6, e6, rfl, X6⟩ := U.dgr f n b (2 * 2 ^ n) h5 (by omega) (A3.ext X5)
  obtain ⟨la, lc, rfl⟩ := K.rd.shape
  rw [List.length_map] at e3 K
  have L := pl f n hn at0 ys.length hat0 K.perm.length_eq.symm hall
  have hs6 := mz_sp_le f n (2 ^ n)
  have hs0 := mz_nonneg (fun x => sp f x n) (2 ^ n)
  have hy6 := K.six
  have l1 := L.sb
  have l2 := L.bc
  have l3 := L.cd
  have l4 := L.gd
  have l5 := L.gs
  have l6 := L.cs
  generalize mz (fun x => sp f x n) (2 ^ n) = S at *
  generalize mz (cp f (2 ^ n)) (2 ^ n) = C at *
  generalize Lf f n 0 0 = D at *
  obtain ⟨s, rfl⟩ := Int.eq_ofNat_of_zero_le hs0
  have hs : s ≤ 6 := by omega
  have hw1 : IntKind.i64.wrap ((s : Int) * (s : Int)) = (s : Int) * (s : Int) := by
    have h1 : s * s ≤ 36 := Nat.mul_le_mul hs hs
    rw [← Int.natCast_mul]
    exact wrap_nat (by omega)
  have hw2 : IntKind.i64.wrap ((s : Int) * Int.ofNat ys.length) = (s : Int) * Int.ofNat ys.length := by
    have h1 : s * ys.length ≤ 36 := Nat.mul_le_mul hs hy6
    show IntKind.i64.wrap ((s : Int) * (ys.length : Int)) = (s : Int) * (ys.length : Int)
    rw [← Int.natCast_mul]
    exact wrap_nat (by omega)
  generalize dgF f n = G at *
  refine ok_go 0 ?_
  refine sy_call 0 (by kernel_rfl) e2 ?_
  refine ok_go 2 ?_
  refine sy_call 0 (by kernel_rfl) e3 ?_
  refine ok_go 3 ?_
  refine sy_call 0 (by kernel_rfl) e4 ?_
  refine ok_go 2 ?_
  refine sy_call 0 (by kernel_rfl) e5 ?_
  refine ok_go 2 ?_
  refine sy_call 0 (by kernel_rfl) e6 ?_
  refine ok_go 25 ?_
  refine sy_yes 0 (b := decide ((s : Int) ≤ Int.ofNat ys.length)) (by kernel_rfl) (decide_eq_true l1) ?_
  refine ok_go 4 ?_
  refine sy_yes 0 (b := decide (Int.ofNat ys.length ≤ C)) (by kernel_rfl) (decide_eq_true l2) ?_
  refine ok_go 4 ?_
  refine sy_yes 0 (b := decide (C ≤ Int.ofNat D)) (by kernel_rfl) (decide_eq_true l3) ?_
  refine ok_go 4 ?_
  refine sy_yes 0 (b := decide (Int.ofNat G ≤ Int.ofNat D)) (by kernel_rfl) (decide_eq_true (Int.ofNat_le.2 l4)) ?_
  refine ok_go 7 ?_
  refine sy_yes 0 (b := decide (Int.ofNat G ≤ IntKind.i64.wrap ((s : Int) * (s : Int)))) (by kernel_rfl) (decide_eq_true (by rw [hw1]; exact l5)) ?_
  refine ok_go 7 ?_
  refine sy_yes 0 (b := decide (C ≤ IntKind.i64.wrap ((s : Int) * Int.ofNat ys.length))) (by kernel_rfl) (decide_eq_true (by rw [hw2]; exact l6)) ?_
  refine ok_go 0 ?_
  refine sy_call 0 (by kernel_rfl) (U.U.aw h6) ?_
  refine ok_go 1 ?_
  exact sy_done 0 (v := .bool true) (h := h6) (by kernel_rfl) rfl
end Go.Proofs.Ytnfboopfpkaeaaa
