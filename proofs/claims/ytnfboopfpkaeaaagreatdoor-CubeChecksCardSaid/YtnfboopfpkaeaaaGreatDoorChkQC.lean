/- ChkQC: contracts and laws of ChkB. -/
import Derived.Test.YtnfboopfpkaeaaaGreatDoorProg
import Derived.KernelRfl
import Derived.Test.YtnfboopfpkaeaaaGreatDoorSyF
import Derived.Test.YtnfboopfpkaeaaaGreatDoorChkQB
import Derived.Laws.StructEq
namespace Go.Proofs.YtnfboopfpkaeaaaGreatDoor
open Go Go.Eng Nim
set_option maxRecDepth 100000
set_option maxHeartbeats 4000000
/-- The lower of a pair. -/
def low (i y : Nat) : Nat := match y.testBit i with | true => y ^^^ 2 ^ i | false => y
/-- The vector when the pairs of which the lower is less than x are turned. -/
def mid {α : Type} (s : α → α → α × α) (i x : Nat) (v : Nat → α) : Nat → α := fun y => if low i y < x then stg s i v y else v y
/-- How many of the first k inputs are turned by a bit. -/
def part (f : Nat → Bool) (i k : Nat) : Int := ((List.range k).map fun x => if f (x ^^^ 2 ^ i) ≠ f x then (1 : Int) else 0).sum
theorem max_nat (a b : Nat) : (if Int.ofNat b > Int.ofNat a then Int.ofNat b else Int.ofNat a) = Int.ofNat (max a b) := by
  show (if (b : Int) > (a : Int) then (b : Int) else (a : Int)) = ((max a b : Nat) : Int)
  split <;> omega
theorem sb_iff {k m : Nat} : k &&& m = k ↔ ∀ i, k.testBit i = true → m.testBit i = true := by
  constructor
  · intro h i hi
    have := congrArg (fun z => z.testBit i) h
    simp only [Nat.testBit_and, hi, Bool.true_and] at this
    exact this
  · intro h
    refine Nat.eq_of_testBit_eq fun i => ?_
    rw [Nat.testBit_and]
    cases hk : k.testBit i with
    | false => rfl
    | true => rw [h i hk]; rfl
theorem eq_int1 (d : Nat) (a c : Nat) : pureRun Tryz.prog (Op.equalIn (d + 1) 3 (J a) (J c)) = some (a == c) := by
  have h3 : pureRun Tryz.prog (underlying 3) = some (.int .i64) := by kernel_rfl
  rw [Op.equalIn, pureRun_bind, h3, Option.bind_some]
  show some (Int.ofNat a == Int.ofNat c) = _
  rw [eq_int]
theorem eq_key (a b c e : Nat) : pureRun Tryz.prog (Op.equal 76 (.agg #[J a, J b]) (.agg #[J c, J e])) = some (a == c && b == e) := by
  have h86 : pureRun Tryz.prog (underlying 76) = some (.struct (Tryz.prog.fieldsOf 76)) := by kernel_rfl
  have hp : Tryz.prog.stoodInHeld 76 = false := by kernel_rfl
  show pureRun Tryz.prog (Op.equalIn (9999 + 1) 76 _ _) = _
  rw [Op.equalIn, pureRun_bind, h86, Option.bind_some]
  simp only [pureRun_bind, program, pureRun, Option.bind_some, hp, Bool.false_eq_true, if_false]
  rw [← Array.forIn_toList]
  obtain ⟨f0, f1, hf, h0, h1, n0, n1, t0, t1⟩ : ∃ f0 f1, (Tryz.prog.fieldsOf 76).toList = [f0, f1] ∧ f0.offset = 0 ∧ f1.offset = 1 ∧ f0.name = "mask" ∧ f1.name = "value" ∧ f0.type = 3 ∧ f1.type = 3 := ⟨_, _, rfl, by kernel_rfl, by kernel_rfl, by kernel_rfl, by kernel_rfl, by kernel_rfl, by kernel_rfl⟩
  rw [hf]
  have p0 : ∀ (x y : Value), pureRun Tryz.prog (Go.part 3 #[x, y] 0) = some x := fun x y => by kernel_rfl
  have p1 : ∀ (x y : Value), pureRun Tryz.prog (Go.part 3 #[x, y] 1) = some y := fun x y => by kernel_rfl
  have ne0 : ("mask" ≠ "_") = True := by simp
  have ne1 : ("value" ≠ "_") = True := by simp
  simp only [List.forIn_cons, List.forIn_nil, pureRun_bind, h0, h1, n0, n1, t0, t1, ne0, ne1, if_true, p0, p1, Option.bind_some, eq_int1]
  cases (a == c)
  · rfl
  · simp only [Bool.not_true, Bool.false_eq_true, if_false, pureRun_bind, p1, eq_int1, Option.bind_some]
    have hpure : ∀ {α : Type} (x : α), pureRun Tryz.prog (pure x : Sem α) = some x := fun _ => rfl
    simp only [hpure, Option.bind_some, pureRun_bind, p1, eq_int1]
    cases (b == e) <;> rfl
def keyV (m v : Nat) : Value := .agg #[J m, J v]
def MapOk (L : Nat → Nat → Nat) (es : List MapEntry) : Prop := ∀ e ∈ es, ∃ m v, e.key = keyV m v ∧ e.val = J (L m v)
theorem key_inj {a b c e : Nat} (h : keyV a b = keyV c e) : a = c ∧ b = e := by
  simp only [keyV, Value.agg.injEq, List.cons.injEq, Array.mk.injEq, Value.int.injEq, true_and, and_true] at h
  exact ⟨Int.ofNat_inj.1 h.1, Int.ofNat_inj.1 h.2⟩
theorem ask_ok (m v : Nat) (L : Nat → Nat → Nat) : ∀ (es : List MapEntry) (i : Nat), MapOk L es → (∃ k, pureRun Tryz.prog (Instr.findAsking 76 (keyV m v) es i) = some (some (k, J (L m v)))) ∨ (pureRun Tryz.prog (Instr.findAsking 76 (keyV m v) es i) = some none ∧ ∀ e ∈ es, e.key ≠ keyV m v)
  | [], i, _ => .inr ⟨rfl, fun e he => by cases he⟩
  | e :: es, i, h => by
    obtain ⟨a, b, h1, h2⟩ := h e (List.mem_cons_self ..)
    have ih := ask_ok m v L es (i + 1) fun x hx => h x (List.mem_cons_of_mem _ hx)
    have he : pureRun Tryz.prog (Op.equal 76 (keyV m v) e.key) = some (m == a && v == b) := by rw [h1]; exact eq_key m v a b
    simp only [Instr.findAsking, pureRun_bind, he, Option.bind_some]
    cases hb : (m == a && v == b)
    · rcases ih with ⟨k, hk⟩ | ⟨hk, hn⟩
      · exact .inl ⟨k, by simpa using hk⟩
      · refine .inr ⟨by simpa using hk, fun x hx => ?_⟩
        rcases List.mem_cons.1 hx with rfl | hx
        · rw [h1]
          intro hc
          obtain ⟨rfl, rfl⟩ := key_inj hc
          simp at hb
        · exact hn x hx
    · simp only [Bool.and_eq_true, beq_iff_eq] at hb
      obtain ⟨rfl, rfl⟩ := hb
      exact .inl ⟨i, by rw [← h2]; rfl⟩
theorem key_flat {L : Nat → Nat → Nat} {es : List MapEntry} (h : MapOk L es) : (es.all fun e => flat e.key) = true := by
  rw [List.all_eq_true]
  intro e he
  obtain ⟨a, b, h1, _⟩ := h e he
  rw [h1]; rfl
theorem find_run (m v : Nat) (L : Nat → Nat → Nat) (b : Bool) (es : List MapEntry) (h : MapOk L es) : (∃ k, pureRun Tryz.prog (do Instr.checkKey b 10000 76 (keyV m v); Instr.findKey 76 (keyV m v) es) = some (some (k, J (L m v)))) ∨ (pureRun Tryz.prog (do Instr.checkKey b 10000 76 (keyV m v); Instr.findKey 76 (keyV m v) es) = some none ∧ ∀ e ∈ es, e.key ≠ keyV m v) := by
  have hck : pureRun Tryz.prog (Instr.checkKey b 10000 76 (keyV m v)) = some () := by kernel_rfl
  have h86 : pureRun Tryz.prog (underlying 76) = some (.struct (Tryz.prog.fieldsOf 76)) := by kernel_rfl
  simp only [pureRun_bind, hck, Option.bind_some, Instr.findKey, h86]
  cases es with
  | nil => exact .inr ⟨rfl, fun e he => by cases he⟩
  | cons e es =>
    have hn : Instr.findNow (.struct (Tryz.prog.fieldsOf 76)) (keyV m v) (e :: es) 0 = none := by
      simp only [Instr.findNow, Instr.sameNow]
    rw [hn]
    exact ask_ok m v L (e :: es) 0 h
theorem look_ok (m v : Nat) (L : Nat → Nat → Nat) (es : List MapEntry) (ok : MapOk L es) (h : Hp) (mid cl : Nat) (hg : h.get mid = some (.map es cl)) :
    lookupOp Tryz.prog h 71 (.map (some mid)) (keyV m v) true = some (.tuple #[J (L m v), .bool true]) ∨ (lookupOp Tryz.prog h 71 (.map (some mid)) (keyV m v) true = some (.tuple #[J 0, .bool false]) ∧ ∀ e ∈ es, e.key ≠ keyV m v) := by
  have hu : Tryz.prog.underlying 71 = some (.map 76 3) := by kernel_rfl
  have hf : flat (keyV m v) = true := rfl
  have hz : zeroOf Tryz.prog 3 = some (J 0) := by kernel_rfl
  simp only [lookupOp, hu, hf, hg, findIn, key_flat ok]
  rcases find_run m v L es.isEmpty es ok with ⟨k, hk⟩ | ⟨hk, hn⟩
  · left; rw [hk]; rfl
  · right; rw [hk]; simp only [hz, if_true]; exact ⟨trivial, hn⟩
theorem upd_ok (m v : Nat) (L : Nat → Nat → Nat) (es : List MapEntry) (ok : MapOk L es) (hn : ∀ e ∈ es, e.key ≠ keyV m v) (h : Hp) (mid cl : Nat) (hg : h.get mid = some (.map es cl)) (x : Value) :
    mapUpdateOp Tryz.prog h 71 (.map (some mid)) (keyV m v) x = some (h.put mid (.map (es ++ [{ key := keyV m v, val := x, born := cl }]) (cl + 1))) := by
  have hu : Tryz.prog.underlying 71 = some (.map 76 3) := by kernel_rfl
  have hf : flat (keyV m v) = true := rfl
  simp only [mapUpdateOp, hu, hf, hg, key_flat ok]
  rcases find_run m v L false es ok with ⟨k, hk⟩ | ⟨hk, _⟩
  · exfalso
    -- the key is there: against hn
    have key : ∀ (es : List MapEntry) (i k : Nat) (y : Value), MapOk L es → (∀ e ∈ es, e.key ≠ keyV m v) → pureRun Tryz.prog (Instr.findAsking 76 (keyV m v) es i) ≠ some (some (k, y)) := by
      intro es
      induction es with
      | nil => intro i k y _ _ hc; cases hc
      | cons e es ih =>
        intro i k y h hn hc
        obtain ⟨a, b, h1, h2⟩ := h e (List.mem_cons_self ..)
        have he : pureRun Tryz.prog (Op.equal 76 (keyV m v) e.key) = some (m == a && v == b) := by rw [h1]; exact eq_key m v a b
        simp only [Instr.findAsking, pureRun_bind, he, Option.bind_some] at hc
        cases hb : (m == a && v == b)
        · rw [hb] at hc
          exact ih (i + 1) k y (fun x hx => h x (List.mem_cons_of_mem _ hx)) (fun x hx => hn x (List.mem_cons_of_mem _ hx)) (by simpa using hc)
        · simp only [Bool.and_eq_true, beq_iff_eq] at hb
          obtain ⟨rfl, rfl⟩ := hb
          exact hn e (List.mem_cons_self ..) h1
    have hck : pureRun Tryz.prog (Instr.checkKey false 10000 76 (keyV m v)) = some () := by kernel_rfl
    have h86 : pureRun Tryz.prog (underlying 76) = some (.struct (Tryz.prog.fieldsOf 76)) := by kernel_rfl
    simp only [pureRun_bind, hck, Option.bind_some, Instr.findKey, h86] at hk
    cases es with
    | nil => cases hk
    | cons e es =>
      have hn' : Instr.findNow (.struct (Tryz.prog.fieldsOf 76)) (keyV m v) (e :: es) 0 = none := by
        simp only [Instr.findNow, Instr.sameNow]
      rw [hn'] at hk
      exact key (e :: es) 0 k _ ok hn hk
  · rw [hk]
theorem with_of (lf k m v b : Nat) (s : Bool) (hm : m < 64) (hv : v < 64) (hb : b < 64) (h : Hp) :
    ∃ y h', Ev lf (k + 1) 65 [keyV m v, J b, .bool s] h = some (y, h') ∧ y = keyV (m ||| b) (if s = true then v ||| b else v) ∧ h.Ext h' := by
  refine fnS_ok (Q := fun y h' => y = keyV (m ||| b) (if s = true then v ||| b else v) ∧ h.Ext h') ?_
  let h1 : Hp := (h.new (.cells [J m, J v] 76 false)).new (.cells [J 0, J 0] 76 false)
  let h2 : Hp := h1.put h.next (.cells [J (m ||| b), J v] 76 false)
  have e1 : h1.get h.next = some (.cells [J m, J v] 76 false) := by
    simp only [h1, gn, nn, if_true]
    repeat (first | rw [if_pos (by omega)] | rw [if_neg (by omega)])
  have e2 : h2.get h.next = some (.cells [J (m ||| b), J v] 76 false) := get_put _ _ _
  have o2 : ∀ j, j < h.next → h2.get j = h.get j := fun j hj => by
    simp only [h2, h1, gn, gp, nn]
    repeat (first | rw [if_pos (by omega)] | rw [if_neg (by omega)])
  have hor : orI (Int.ofNat m) (Int.ofNat b) = Int.ofNat (m ||| b) := or_nat (by omega) (by omega)
  have fin : ∀ w, ∃ h3 h4 : Hp, h3 = h2.put h.next (.cells [J (m ||| b), J w] 76 false) ∧ h4 = h3.put (h.next + 1) (.cells [J (m ||| b), J w] 76 false) ∧ h3.get h.next = some (.cells [J (m ||| b), J w] 76 false) ∧ h3.get (h.next + 1) = some (.cells [J 0, J 0] 76 false) ∧ h4.get (h.next + 1) = some (.cells [J (m ||| b), J w] 76 false) ∧ h.Ext h4 := fun w => by
    refine ⟨_, _, rfl, rfl, get_put _ _ _, ?_, get_put _ _ _, ⟨by show h.next ≤ h.next + 1 + 1; omega, fun j hj => ?_⟩⟩
    · simp only [h2, h1, gn, gp, nn, if_true]
      repeat (first | rw [if_pos (by omega)] | rw [if_neg (by omega)])
    · rw [Hp.get_put_ne (by omega), Hp.get_put_ne (by omega)]
      exact o2 j hj
  refine ok_go 3 ?_
  refine sy_load 0 (r := loadT Tryz.prog h1 3 (ptr h.next 0)) (h' := h1) (v := J m) (by kernel_rfl) (load1 agI e1 rfl) ?_
  refine ok_go 2 ?_
  refine sy_store 0 (r := storeT Tryz.prog h1 3 (ptr h.next 0) (.int .i64 (orI (Int.ofNat m) (Int.ofNat b)))) (h' := h2) (by kernel_rfl) (by rw [hor]; exact store1 zI rfl e1 (show 0 < 2 by omega)) ?_
  cases s with
  | true =>
    have hor2 : orI (Int.ofNat v) (Int.ofNat b) = Int.ofNat (v ||| b) := or_nat (by omega) (by omega)
    obtain ⟨h3, h4, r3, r4, g3, g3', g4, X⟩ := fin (v ||| b)
    refine ok_go 2 ?_
    refine sy_load 0 (r := loadT Tryz.prog h2 3 (ptr h.next 1)) (h' := h2) (v := J v) (by kernel_rfl) (load1 agI e2 rfl) ?_
    refine ok_go 2 ?_
    refine sy_store 0 (r := storeT Tryz.prog h2 3 (ptr h.next 1) (.int .i64 (orI (Int.ofNat v) (Int.ofNat b)))) (h' := h3) (by kernel_rfl) (by rw [hor2, r3]; exact store1 zI rfl e2 (show 1 < 2 by omega)) ?_
    refine ok_go 0 ?_
    refine sy_load 0 (r := loadT Tryz.prog h3 76 (ptr h.next 0)) (h' := h3) (by kernel_rfl) (load2 agP szP g3) ?_
    refine ok_go 0 ?_
    refine sy_store 0 (r := storeT Tryz.prog h3 76 (ptr (h.next + 1) 0) (.agg #[J (m ||| b), J (v ||| b)])) (h' := h4) (by kernel_rfl) (by rw [r4]; exact store2 szP g3' rfl) ?_
    refine ok_go 0 ?_
    refine sy_load 0 (r := loadT Tryz.prog h4 76 (ptr (h.next + 1) 0)) (h' := h4) (by kernel_rfl) (load2 agP szP g4) ?_
    refine ok_go 0 ?_
    exact sy_done 0 (v := keyV (m ||| b) (v ||| b)) (h := h4) (by kernel_rfl) ⟨rfl, X⟩
  | false =>
    obtain ⟨h3, h4, r3, r4, g3, g3', g4, X⟩ := fin v
    have X' : ∃ h5 : Hp, h5 = h2.put (h.next + 1) (.cells [J (m ||| b), J v] 76 false) ∧ h5.get (h.next + 1) = some (.cells [J (m ||| b), J v] 76 false) ∧ h.Ext h5 := ⟨_, rfl, get_put _ _ _, by show h.next ≤ h.next + 1 + 1; omega, fun j hj => by rw [Hp.get_put_ne (by omega)]; exact o2 j hj⟩
    obtain ⟨h5, r5, g5, X5⟩ := X'
    have e2' : h2.get (h.next + 1) = some (.cells [J 0, J 0] 76 false) := by
      simp only [h2, h1, gn, gp, nn, if_true]
      repeat (first | rw [if_pos (by omega)] | rw [if_neg (by omega)])
    refine ok_go 1 ?_
    refine sy_load 0 (r := loadT Tryz.prog h2 76 (ptr h.next 0)) (h' := h2) (by kernel_rfl) (load2 agP szP e2) ?_
    refine ok_go 0 ?_
    refine sy_store 0 (r := storeT Tryz.prog h2 76 (ptr (h.next + 1) 0) (.agg #[J (m ||| b), J v])) (h' := h5) (by kernel_rfl) (by rw [r5]; exact store2 szP e2' rfl) ?_
    refine ok_go 0 ?_
    refine sy_load 0 (r := loadT Tryz.prog h5 76 (ptr (h.next + 1) 0)) (h' := h5) (by kernel_rfl) (load2 agP szP g5) ?_
    refine ok_go 0 ?_
    exact sy_done 0 (v := keyV (m ||| b) v) (h := h5) (by kernel_rfl) ⟨rfl, X5⟩
/-- The least of the depths by the first bits, and 6. -/
def mnl (n m : Nat) (D : Nat → Nat) : Nat → Nat
  | 0 => 6
  | i + 1 => if (m &&& 2 ^ i == 0) = true then min (mnl n m D i) (D i) else mnl n m D i
/-- The depth of a part, to some levels. -/
def Lq (f : Nat → Bool) (n : Nat) : Nat → Nat → Nat → Nat
  | 0, _, _ => 0
  | d + 1, m, v => if al (cq f m v) (2 ^ n) = true then 0 else mnl n m (fun i => 1 + max (Lq f n d (m ||| 2 ^ i) v) (Lq f n d (m ||| 2 ^ i) (v ||| 2 ^ i))) n
theorem mnl_congr (n m : Nat) {D D' : Nat → Nat} : ∀ k, (∀ i, i < k → m &&& 2 ^ i = 0 → D i = D' i) → mnl n m D k = mnl n m D' k
  | 0, _ => rfl
  | k + 1, h => by
    rw [mnl, mnl, mnl_congr n m k (fun i hi => h i (by omega))]
    split
    · rename_i hz
      rw [h k (Nat.lt_succ_self k) (eq_of_beq hz)]
    · rfl
theorem mnl_le (n m : Nat) (D : Nat → Nat) : ∀ k, mnl n m D k ≤ 6
  | 0 => Nat.le_refl _
  | k + 1 => by
    have := mnl_le n m D k
    rw [mnl]
    split <;> omega
theorem Lq_le (f : Nat → Bool) (n : Nat) : ∀ d m v, Lq f n d m v ≤ 6
  | 0, _, _ => Nat.zero_le _
  | d + 1, m, v => by
    rw [Lq]
    split
    · omega
    · exact mnl_le n m _ n
theorem or_gt {m i : Nat} (h : m &&& 2 ^ i = 0) : m < m ||| 2 ^ i := by
  rw [or_bit ((and_bit m i).1 h)]
  rcases Nat.lt_or_ge m (m ^^^ 2 ^ i) with h1 | h1
  · exact h1
  · have h2 : m ||| 2 ^ i = m ^^^ 2 ^ i := or_bit ((and_bit m i).1 h)
    have h3 : m ≤ m ||| 2 ^ i := Nat.left_le_or
    rw [h2] at h3
    have h4 : m = m ^^^ 2 ^ i := by omega
    have h5 := congrArg (fun z => z.testBit i) h4
    simp only [tb_same, (and_bit m i).1 h] at h5
    cases h5
theorem Lq_stable (f : Nat → Bool) (n : Nat) : ∀ d d' m v, m < 2 ^ n → 2 ^ n - m ≤ d → 2 ^ n - m ≤ d' → Lq f n d m v = Lq f n d' m v
  | 0, d', m, v, hm, h, _ => by omega
  | d + 1, 0, m, v, hm, _, h => by omega
  | d + 1, d' + 1, m, v, hm, h, h' => by
    rw [Lq, Lq]
    split
    · rfl
    · refine mnl_congr n m n fun i hi hz => ?_
      have h1 := or_gt hz
      have h2 : m ||| 2 ^ i < 2 ^ n := or_small hm (Nat.pow_lt_pow_right (by decide) hi)
      rw [Lq_stable f n d d' _ _ h2 (by omega) (by omega), Lq_stable f n d d' _ _ h2 (by omega) (by omega)]
/-- The depth of a part. -/
def Lf (f : Nat → Bool) (n m v : Nat) : Nat := Lq f n (2 ^ n) m v
theorem Lf_le (f : Nat → Bool) (n m v : Nat) : Lf f n m v ≤ 6 := Lq_le f n _ m v
theorem Lf_eq (f : Nat → Bool) (n m v : Nat) (hm : m < 2 ^ n) : Lf f n m v = if al (cq f m v) (2 ^ n) = true then 0 else mnl n m (fun i => 1 + max (Lf f n (m ||| 2 ^ i) v) (Lf f n (m ||| 2 ^ i) (v ||| 2 ^ i))) n := by
  have h0 := Nat.two_pow_pos n
  have e : Lf f n m v = Lq f n (2 ^ n + 1) m v := Lq_stable f n _ _ m v hm (by omega) (by omega)
  rw [e, Lq]
  rfl
/-- The map of a decider, in block mid. -/
structure Dm (f : Nat → Bool) (n bd b0 c mid : Nat) (es : List MapEntry) (cl : Nat) (h : Hp) : Prop where
  blk : bd < h.next ∧ h.get bd = some (.cells [.slice (some ⟨b0, 0, none⟩) (2 ^ n) c, .map (some mid)] 73 false)
  mp : mid < h.next ∧ h.get mid = some (.map es cl)
  ne : bd ≠ mid ∧ b0 ≠ mid
  ok : MapOk (Lf f n) es
  arr : ArB b0 (2 ^ n) f h
/-- Only parts that tell more are new. -/
def New (m : Nat) (es es' : List MapEntry) : Prop := ∀ e ∈ es', e ∈ es ∨ ∃ a b, e.key = keyV a b ∧ m &&& a = m
theorem New.refl (m : Nat) (es : List MapEntry) : New m es es := fun _ he => .inl he
theorem New.trans {m : Nat} {a b c : List MapEntry} (h : New m a b) (k : New m b c) : New m a c := fun e he => by
  rcases k e he with h1 | h1
  · exact h e h1
  · exact .inr h1
/-- What least does with a part. -/
def Least (f : Nat → Bool) (n lf F bd b0 c mid m v : Nat) : Prop := ∀ h es cl, Dm f n bd b0 c mid es cl h → ∃ h' es' cl', Ev lf F 42 [ptr bd 0, keyV m v] h = some (J (Lf f n m v), h') ∧ Dm f n bd b0 c mid es' cl' h' ∧ New m es es' ∧ Exc [mid] h h'
theorem least_of (f : Nat → Bool) (n : Nat) (hn : n ≤ 5) (lf bd b0 c mid : Nat) (hlf : 300 ≤ lf) (F m v : Nat) (hm : m < 2 ^ n) (hv : v < 2 ^ n)
    (co : ∀ h, ArB b0 (2 ^ n) f h → Dcd bd b0 (2 ^ n) c h → ∃ y h', Ev lf (F + 2) 64 [ptr bd 0, keyV m v] h = some (y, h') ∧ y = .tuple #[.bool (f v), .bool (al (cq f m v) (2 ^ n))] ∧ h.Ext h')
    (wi : ∀ i s h, i < n → ∃ y h', Ev lf F 65 [keyV m v, J (2 ^ i), .bool s] h = some (y, h') ∧ y = keyV (m ||| 2 ^ i) (if s = true then v ||| 2 ^ i else v) ∧ h.Ext h')
    (rec_ : ∀ i w, i < n → m &&& 2 ^ i = 0 → (w = v ∨ w = v ||| 2 ^ i) → Least f n lf F bd b0 c mid (m ||| 2 ^ i) w) : Least f n lf (F + 3) bd b0 c mid m v := by
  intro h es cl D
  have hp32 : 2 ^ n ≤ 32 := Nat.pow_le_pow_right (n := 2) (by decide) hn
  have main : ∃ y h', Ev lf (F + 3) 42 [ptr bd 0, keyV m v] h = some (y, h') ∧ (y = J (Lf f n m v) ∧ ∃ es' cl', Dm f n bd b0 c mid es' cl' h' ∧ New m es es' ∧ Exc [mid] h h') := by
    refine fnS_ok (Q := fun y h' => y = J (Lf f n m v) ∧ ∃ es' cl', Dm f n bd b0 c mid es' cl' h' ∧ New m es es' ∧ Exc [mid] h h') ?_
    obtain ⟨⟨hbd, gbd⟩, ⟨hmid, gmid⟩, hne, ok, A⟩ := D
    let H2 : Hp := (h.new (.cells [ptr bd 0] 70 false)).new (.cells [J m, J v] 76 false)
    have n2 : H2.next = h.next + 2 := rfl
    have o2 : ∀ j, j < h.next → H2.get j = h.get j := fun j hj => by
      simp only [H2, gn, nn]
      repeat (first | rw [if_pos (by omega)] | rw [if_neg (by omega)])
    have e0 : H2.get h.next = some (.cells [ptr bd 0] 70 false) := by
      simp only [H2, gn, nn, if_true]
      repeat (first | rw [if_pos (by omega)] | rw [if_neg (by omega)])
    have e1 : H2.get (h.next + 1) = some (.cells [J m, J v] 76 false) := by
      simp only [H2, gn, nn, if_true]
    have gb2 : H2.get bd = some (.cells [.slice (some ⟨b0, 0, none⟩) (2 ^ n) c, .map (some mid)] 73 false) := by rw [o2 _ hbd]; exact gbd
    have gm2 : H2.get mid = some (.map es cl) := by rw [o2 _ hmid]; exact gmid
    refine ok_go 2 ?_
    refine sy_load 0 (r := loadT Tryz.prog H2 70 (ptr h.next 0)) (h' := H2) (v := ptr bd 0) (by kernel_rfl) (load1 (by kernel_rfl) e0 rfl) ?_
    refine ok_go 2 ?_
    refine sy_load 0 (r := loadT Tryz.prog H2 71 (ptr bd 1)) (h' := H2) (v := .map (some mid)) (by kernel_rfl) (load1 (by kernel_rfl) gb2 rfl) ?_
    refine ok_go 0 ?_
    refine sy_load 0 (r := loadT Tryz.prog H2 76 (ptr (h.next + 1) 0)) (h' := H2) (v := keyV m v) (by kernel_rfl) (load2 agP szP e1) ?_
    refine ok_go 0 ?_
    rcases look_ok m v (Lf f n) es ok H2 mid cl gm2 with hl | ⟨hl, hnone⟩
    · refine sy_load 0 (r := lookupOp Tryz.prog H2 71 (.map (some mid)) (keyV m v) true) (h' := H2) (by kernel_rfl) hl ?_
      refine ok_go 4 ?_
      exact sy_done 0 (v := J (Lf f n m v)) (h := H2) (by kernel_rfl) ⟨rfl, es, cl, ⟨⟨by omega, gb2⟩, ⟨by omega, gm2⟩, hne, ok, A.ext ⟨by omega, o2⟩⟩, New.refl m es, ⟨by omega, fun j hj _ => o2 j hj⟩⟩
    · let H3 : Hp := H2.new (.cells [I 0] 3 false)
      let H4 : Hp := H3.put (h.next + 2) (.cells [I 0] 3 false)
      have e3 : H3.get (h.next + 2) = some (.cells [I 0] 3 false) := get_new H2 _
      have e4 : H4.get (h.next + 2) = some (.cells [I 0] 3 false) := get_put _ _ _
      have n4 : H4.next = h.next + 3 := rfl
      have o4 : ∀ j, j < h.next + 2 → H4.get j = H2.get j := fun j hj => by
        simp only [H4, H3, gn, gp]
        repeat (first | rw [if_pos (by omega)] | rw [if_neg (by omega)])
      have X4 : h.Ext H4 := ⟨by omega, fun j hj => by rw [o4 j (by omega)]; exact o2 j hj⟩
      obtain ⟨_, H5, eco, rfl, X5⟩ := co H4 (A.ext X4) ⟨by omega, .map (some mid), false, by rw [o4 _ (by omega)]; exact gb2⟩
      have n5 := X5.next
      have f0 : H5.get h.next = some (.cells [ptr bd 0] 70 false) := by rw [X5.get _ (by omega), o4 _ (by omega)]; exact e0
      have f1 : H5.get (h.next + 1) = some (.cells [J m, J v] 76 false) := by rw [X5.get _ (by omega), o4 _ (by omega)]; exact e1
      have f2 : H5.get (h.next + 2) = some (.cells [I 0] 3 false) := by rw [X5.get _ (by omega)]; exact e4
      have X45 : h.Ext H5 := X4.trans X5
      have gb5 : H5.get bd = some (.cells [.slice (some ⟨b0, 0, none⟩) (2 ^ n) c, .map (some mid)] 73 false) := by rw [X45.get _ hbd]; exact gbd
      have gm5 : H5.get mid = some (.map es cl) := by rw [X45.get _ hmid]; exact gmid
      refine sy_load 0 (r := lookupOp Tryz.prog H2 71 (.map (some mid)) (keyV m v) true) (h' := H2) (by kernel_rfl) hl ?_
      refine ok_go 4 ?_
      refine sy_store 0 (r := storeT Tryz.prog H3 3 (ptr (h.next + 2) 0) (I 0)) (h' := H4) (by kernel_rfl) (store1 zI rfl e3 (show 0 < 1 by omega)) ?_
      refine ok_go 0 ?_
      refine sy_load 0 (r := loadT Tryz.prog H4 70 (ptr h.next 0)) (h' := H4) (v := ptr bd 0) (by kernel_rfl) (load1 (by kernel_rfl) (by rw [o4 _ (by omega)]; exact e0) rfl) ?_
      refine ok_go 0 ?_
      refine sy_load 0 (r := loadT Tryz.prog H4 76 (ptr (h.next + 1) 0)) (h' := H4) (v := keyV m v) (by kernel_rfl) (load2 agP szP (by rw [o4 _ (by omega)]; exact e1)) ?_
      refine ok_go 0 ?_
      refine sy_call 0 (by kernel_rfl) eco ?_
      refine ok_go 3 ?_
      refine sy_test 0 (!al (cq f m v) (2 ^ n)) (by kernel_rfl) ?_ ?_
      · intro hal
        rw [Bool.not_eq_true'] at hal
        let H6 : Hp := H5.put (h.next + 2) (.cells [J 6] 3 false)
        have g6 : H6.get (h.next + 2) = some (.cells [J 6] 3 false) := get_put _ _ _
        have o6 : ∀ j, j ≠ h.next + 2 → H6.get j = H5.get j := fun j hj => Hp.get_put_ne hj
        have n6 : H6.next = H5.next := rfl
        refine ok_go 0 ?_
        refine sy_store 0 (r := storeT Tryz.prog H5 3 (ptr (h.next + 2) 0) (J 6)) (h' := H6) (by kernel_rfl) (store1 zI rfl f2 (show 0 < 1 by omega)) ?_
        refine ok_go 0 ?_
        refine sy_load 0 (r := loadT Tryz.prog H6 70 (ptr h.next 0)) (h' := H6) (v := ptr bd 0) (by kernel_rfl) (load1 (by kernel_rfl) (by rw [o6 _ (by omega)]; exact f0) rfl) ?_
        refine ok_go 2 ?_
        refine sy_load 0 (r := loadT Tryz.prog H6 22 (ptr bd 0)) (h' := H6) (v := .slice (some ⟨b0, 0, none⟩) (2 ^ n) c) (by kernel_rfl) (load1 (by kernel_rfl) (by rw [o6 _ (by omega)]; exact gb5) rfl) ?_
        let SL : Value := .slice (some ⟨b0, 0, none⟩) (2 ^ n) c
        let H7 : Hp := H6.new (.cells [SL] 22 false)
        have n7 : H7.next = H5.next + 1 := rfl
        refine ok_go 1 ?_
        refine sy_range 0 (callF := evInv Tryz.prog orc lf (F + 2)) (P := Tryz.prog) (lf := lf) (m := 62) (rcOf Tryz.prog 42 0) H7 [(2, ptr h.next 0), (3, ptr (h.next + 1) 0), (7, ptr (h.next + 2) 0)] 73 [.func (.yield (H7.next + 1)) #[] #[], ptr H6.next 0]
          (by kernel_rfl) (fun F => by kernel_rfl) ⟨by kernel_rfl, by kernel_rfl, by kernel_rfl, trivial⟩ (by kernel_rfl) (by kernel_rfl) fun F1 f2' hr => ?_
        let HH : Hp := (rcOf Tryz.prog 42 0).heap F1 H7
        have nH : HH.next = H5.next + 3 := rfl
        have oH : ∀ j, j < H5.next → HH.get j = H6.get j := fun j hj => by
          simp only [HH, RC.heap, H7, gn, nn]
          repeat (first | rw [if_pos (by omega)] | rw [if_neg (by omega)])
        have HB : HH.get H5.next = some (.cells [SL] 22 false) := by
          simp only [HH, RC.heap, H7, gn, nn, n6, if_true]
          repeat (first | rw [if_pos (by omega)] | rw [if_neg (by omega)])
        have HD : HH.get (H5.next + 1) = some (.defd false) := by
          simp only [HH, RC.heap, H7, gn, nn, n6, if_true]
          repeat (first | rw [if_pos (by omega)] | rw [if_neg (by omega)])
        have HL : HH.get (H5.next + 2) = some ((rcOf Tryz.prog 42 0).obj F1 (H5.next + 1) .ready none) := get_new (H7.new _) _
        have Hold : ∀ j, j < h.next → HH.get j = h.get j := fun j hj => by rw [oH j (by omega), o6 j (by omega)]; exact X45.get j hj
        have Hf0 : HH.get h.next = some (.cells [ptr bd 0] 70 false) := by rw [oH _ (by omega), o6 _ (by omega)]; exact f0
        have Hf1 : HH.get (h.next + 1) = some (.cells [J m, J v] 76 false) := by rw [oH _ (by omega), o6 _ (by omega)]; exact f1
        have Hf2 : HH.get (h.next + 2) = some (.cells [J 6] 3 false) := by rw [oH _ (by omega)]; exact g6
        let Dd : Nat → Nat := fun i => 1 + max (Lf f n (m ||| 2 ^ i) v) (Lf f n (m ||| 2 ^ i) (v ||| 2 ^ i))
        have hDd : ∀ i, Dd i ≤ 7 := fun i => by
          have h1 := Lf_le f n (m ||| 2 ^ i) v
          have h2 := Lf_le f n (m ||| 2 ^ i) (v ||| 2 ^ i)
          show 1 + max _ _ ≤ 7
          omega
        let Inv : Nat → Hp → Prop := fun i r => ∃ es1 cl1, Exc [mid, h.next + 2, H5.next + 2] HH r ∧ r.get mid = some (.map es1 cl1) ∧ MapOk (Lf f n) es1 ∧ (∀ e ∈ es1, e ∈ es ∨ ∃ a b, e.key = keyV a b ∧ m &&& a = m ∧ a ≠ m) ∧ r.get (h.next + 2) = some (.cells [J (mnl n m Dd i)] 3 false) ∧ r.get (H5.next + 2) = some ((rcOf Tryz.prog 42 0).obj F1 (H5.next + 1) .ready none)
        have hb : ∀ i r, Inv i r → loadT Tryz.prog r 22 (ptr H5.next 0) = some (.slice (some ⟨b0, 0, none⟩) (2 ^ n) c) := fun i r ⟨es1, cl1, Xr, _⟩ => load1 (by kernel_rfl) (by rw [Xr.get _ (by omega) (by simp; omega)]; exact HB) rfl
        have hy : ∀ i r, i < n → Inv i r → ∃ g', evInv Tryz.prog orc lf (F + 1) (.yield (H5.next + 2) [J (2 ^ i)]) r = some (.bool true, g') ∧ Inv (i + 1) g' := fun i r hi ⟨es1, cl1, Xr, Mr, okr, newr, Tr7, Lr⟩ => by
          have key : ∃ w g', evInv Tryz.prog orc lf (F + 1) (.yield (H5.next + 2) [J (2 ^ i)]) r = some (w, g') ∧ (w = .bool true ∧ Inv (i + 1) g') := by
            refine yld_ok (c := rcOf Tryz.prog 42 0) (Q := fun w g' => w = .bool true ∧ Inv (i + 1) g') hr Lr (by kernel_rfl) ?_
            refine ok_go 0 ?_
            refine sy_busy 0 (by kernel_rfl) Lr ?_
            have R' : ∀ j, j ≠ H5.next + 2 → (r.put (H5.next + 2) ((rcOf Tryz.prog 42 0).obj F1 (H5.next + 1) .busy none)).get j = r.get j := fun j hj => Hp.get_put_ne hj
            have Rl : (r.put (H5.next + 2) ((rcOf Tryz.prog 42 0).obj F1 (H5.next + 1) .busy none)).get (H5.next + 2) = some ((rcOf Tryz.prog 42 0).obj F1 (H5.next + 1) .busy none) := get_put _ _ _
            have nr' : (r.put (H5.next + 2) ((rcOf Tryz.prog 42 0).obj F1 (H5.next + 1) .busy none)).next = r.next := rfl
            generalize r.put (H5.next + 2) ((rcOf Tryz.prog 42 0).obj F1 (H5.next + 1) .busy none) = r' at R' Rl nr' ⊢
            have nXr := Xr.next
            have K : ∀ j, j < HH.next → j ≠ mid → j ≠ h.next + 2 → j ≠ H5.next + 2 → r'.get j = HH.get j := fun j hj h1 h2 h3 => by rw [R' j h3]; exact Xr.get j hj (by simp; omega)
            have r0 : r'.get h.next = some (.cells [ptr bd 0] 70 false) := (K _ (by omega) (by omega) (by omega) (by omega)).trans Hf0
            have r1 : r'.get (h.next + 1) = some (.cells [J m, J v] 76 false) := (K _ (by omega) (by omega) (by omega) (by omega)).trans Hf1
            have r2 : r'.get (h.next + 2) = some (.cells [J (mnl n m Dd i)] 3 false) := by rw [R' _ (by omega)]; exact Tr7
            have Dr : Dm f n bd b0 c mid es1 cl1 r' := by
              refine ⟨⟨by omega, by rw [K _ (by omega) hne.1 (by omega) (by omega), Hold _ hbd]; exact gbd⟩, ⟨by omega, by rw [R' _ (by omega)]; exact Mr⟩, hne, okr, ?_⟩
              obtain ⟨o, e⟩ := A.get
              have hb0 := A.lt
              exact ⟨by omega, o, by rw [K _ (by omega) hne.2 (by omega) (by omega), Hold _ hb0]; exact e⟩
            have hpi : 2 ^ i < 2 ^ n := Nat.pow_lt_pow_right (by decide) hi
            have hand : (andI (Int.ofNat m) (Int.ofNat (2 ^ i)) == 0) = (m &&& 2 ^ i == 0) := by rw [and_nat (by omega)]; exact eq_int _ 0
            refine ok_go 1 ?_
            refine sy_load 0 (r := loadT Tryz.prog r' 3 (ptr (h.next + 1) 0)) (h' := r') (v := J m) (by kernel_rfl) (load1 agI r1 rfl) ?_
            refine ok_go 2 ?_
            refine sy_test 0 (andI (Int.ofNat m) (Int.ofNat (2 ^ i)) == 0) (by kernel_rfl) ?_ ?_
            · intro hz
              rw [hand] at hz
              have hz0 : m &&& 2 ^ i = 0 := eq_of_beq hz
              obtain ⟨_, q1, w1, rfl, Y1⟩ := wi i false r' hi
              have Dq1 : Dm f n bd b0 c mid es1 cl1 q1 := ⟨⟨by have := Y1.next; omega, by rw [Y1.get _ Dr.blk.1]; exact Dr.blk.2⟩, ⟨by have := Y1.next; have := Dr.mp.1; omega, by rw [Y1.get _ Dr.mp.1]; exact Dr.mp.2⟩, hne, okr, Dr.arr.ext Y1⟩
              obtain ⟨q2, es2, cl2, c1, Dq2, N2, Y2⟩ := rec_ i v hi hz0 (.inl rfl) q1 es1 cl1 Dq1
              obtain ⟨_, q3, w2, rfl, Y3⟩ := wi i true q2 hi
              have Dq3 : Dm f n bd b0 c mid es2 cl2 q3 := ⟨⟨by have := Y3.next; have := Dq2.blk.1; omega, by rw [Y3.get _ Dq2.blk.1]; exact Dq2.blk.2⟩, ⟨by have := Y3.next; have := Dq2.mp.1; omega, by rw [Y3.get _ Dq2.mp.1]; exact Dq2.mp.2⟩, hne, Dq2.ok, Dq2.arr.ext Y3⟩
              obtain ⟨q4, es4, cl4, c2, Dq4, N4, Y4⟩ := rec_ i (v ||| 2 ^ i) hi hz0 (.inr rfl) q3 es2 cl2 Dq3
              have m1 := Y1.next
              have m2 := Y2.next
              have m3 := Y3.next
              have m4 := Y4.next
              have k1 : ∀ j, j < r'.next → q1.get j = r'.get j := fun j hj => Y1.get j hj
              have k2 : ∀ j, j < r'.next → j ≠ mid → q2.get j = r'.get j := fun j hj h1 => by rw [Y2.get j (by omega) (by simpa using h1)]; exact k1 j hj
              have k3 : ∀ j, j < r'.next → j ≠ mid → q3.get j = r'.get j := fun j hj h1 => by rw [Y3.get j (by omega)]; exact k2 j hj h1
              have k4 : ∀ j, j < r'.next → j ≠ mid → q4.get j = r'.get j := fun j hj h1 => by rw [Y4.get j (by omega) (by simpa using h1)]; exact k3 j hj h1
              have t4 : q4.get (h.next + 2) = some (.cells [J (mnl n m Dd i)] 3 false) := by rw [k4 _ (by omega) (by omega)]; exact r2
              have hw4 : IntKind.i64.wrap (1 + (if Int.ofNat (Lf f n (m ||| 2 ^ i) (v ||| 2 ^ i)) > Int.ofNat (Lf f n (m ||| 2 ^ i) v) then Int.ofNat (Lf f n (m ||| 2 ^ i) (v ||| 2 ^ i)) else Int.ofNat (Lf f n (m ||| 2 ^ i) v))) = Int.ofNat (Dd i) := by
                have h1 := hDd i
                rw [max_nat]
                show IntKind.i64.wrap (1 + Int.ofNat (max (Lf f n (m ||| 2 ^ i) v) (Lf f n (m ||| 2 ^ i) (v ||| 2 ^ i)))) = Int.ofNat (Dd i)
                rw [show (1 : Int) + Int.ofNat (max (Lf f n (m ||| 2 ^ i) v) (Lf f n (m ||| 2 ^ i) (v ||| 2 ^ i))) = Int.ofNat (Dd i) from by
                  show (1 : Int) + ((max (Lf f n (m ||| 2 ^ i) v) (Lf f n (m ||| 2 ^ i) (v ||| 2 ^ i)) : Nat) : Int) = ((1 + max (Lf f n (m ||| 2 ^ i) v) (Lf f n (m ||| 2 ^ i) (v ||| 2 ^ i)) : Nat) : Int)
                  omega, wrap_nat (by omega)]
              refine ok_go 0 ?_
              refine sy_load 0 (r := loadT Tryz.prog r' 3 (ptr (h.next + 2) 0)) (h' := r') (v := J (mnl n m Dd i)) (by kernel_rfl) (load1 agI r2 rfl) ?_
              refine ok_go 0 ?_
              refine sy_load 0 (r := loadT Tryz.prog r' 70 (ptr h.next 0)) (h' := r') (v := ptr bd 0) (by kernel_rfl) (load1 (by kernel_rfl) r0 rfl) ?_
              refine ok_go 0 ?_
              refine sy_load 0 (r := loadT Tryz.prog r' 76 (ptr (h.next + 1) 0)) (h' := r') (v := keyV m v) (by kernel_rfl) (load2 agP szP r1) ?_
              refine ok_go 0 ?_
              refine sy_call 0 (by kernel_rfl) w1 ?_
              refine ok_go 0 ?_
              refine sy_call 0 (by kernel_rfl) c1 ?_
              refine ok_go 0 ?_
              refine sy_load 0 (r := loadT Tryz.prog q2 70 (ptr h.next 0)) (h' := q2) (v := ptr bd 0) (by kernel_rfl) (load1 (by kernel_rfl) (by rw [k2 _ (by omega) (by omega)]; exact r0) rfl) ?_
              refine ok_go 0 ?_
              refine sy_load 0 (r := loadT Tryz.prog q2 76 (ptr (h.next + 1) 0)) (h' := q2) (v := keyV m v) (by kernel_rfl) (load2 agP szP (by rw [k2 _ (by omega) (by omega)]; exact r1)) ?_
              refine ok_go 0 ?_
              refine sy_call 0 (by kernel_rfl) w2 ?_
              refine ok_go 0 ?_
              refine sy_call 0 (by kernel_rfl) c2 ?_
              have hv7 : (if IntKind.i64.wrap (1 + (if Int.ofNat (Lf f n (m ||| 2 ^ i) (v ||| 2 ^ i)) > Int.ofNat (Lf f n (m ||| 2 ^ i) v) then Int.ofNat (Lf f n (m ||| 2 ^ i) (v ||| 2 ^ i)) else Int.ofNat (Lf f n (m ||| 2 ^ i) v))) < Int.ofNat (mnl n m Dd i) then IntKind.i64.wrap (1 + (if Int.ofNat (Lf f n (m ||| 2 ^ i) (v ||| 2 ^ i)) > Int.ofNat (Lf f n (m ||| 2 ^ i) v) then Int.ofNat (Lf f n (m ||| 2 ^ i) (v ||| 2 ^ i)) else Int.ofNat (Lf f n (m ||| 2 ^ i) v))) else Int.ofNat (mnl n m Dd i)) = Int.ofNat (mnl n m Dd (i + 1)) := by
                rw [hw4, mnl, if_pos hz]
                rcases Nat.lt_or_ge (Dd i) (mnl n m Dd i) with h1 | h1
                · rw [if_pos (show Int.ofNat (Dd i) < Int.ofNat (mnl n m Dd i) from Int.ofNat_lt.2 h1), Nat.min_eq_right (by omega)]
                · rw [if_neg (fun h => by have := Int.ofNat_lt.1 h; omega), Nat.min_eq_left h1]
              have hvJ := congrArg (Value.int .i64) hv7
              let q5 : Hp := q4.put (h.next + 2) (.cells [J (mnl n m Dd (i + 1))] 3 false)
              have P5 : ∀ j, j ≠ h.next + 2 → q5.get j = q4.get j := fun j hj => Hp.get_put_ne hj
              have t5 : q5.get (h.next + 2) = some (.cells [J (mnl n m Dd (i + 1))] 3 false) := get_put _ _ _
              have n5' : q5.next = q4.next := rfl
              refine ok_go 3 ?_
              refine sy_store 0 (r := storeT Tryz.prog q4 3 (ptr (h.next + 2) 0) (J (mnl n m Dd (i + 1)))) (h' := q5) (by rw [show J (mnl n m Dd (i + 1)) = Value.int .i64 (Int.ofNat (mnl n m Dd (i + 1))) from rfl, ← hvJ]; kernel_rfl) (store1 zI rfl t4 (show 0 < 1 by omega)) ?_
              refine ok_go 0 ?_
              have a1 : q1.get (h.next + 2) = some (.cells [J (mnl n m Dd i)] 3 false) := by rw [k1 _ (by omega)]; exact r2
              have a2 : q2.get (h.next + 2) = some (.cells [J (mnl n m Dd i)] 3 false) := by rw [k2 _ (by omega) (by omega)]; exact r2
              have a3 : q3.get (h.next + 2) = some (.cells [J (mnl n m Dd i)] 3 false) := by rw [k3 _ (by omega) (by omega)]; exact r2
              have b1 : q1.get h.next = some (.cells [ptr bd 0] 70 false) := by rw [k1 _ (by omega)]; exact r0
              have b3 : q3.get h.next = some (.cells [ptr bd 0] 70 false) := by rw [k3 _ (by omega) (by omega)]; exact r0
              have d1 : q1.get (h.next + 1) = some (.cells [J m, J v] 76 false) := by rw [k1 _ (by omega)]; exact r1
              refine sy_need 0 [] [⟨(loadT Tryz.prog q1 3 (ptr (h.next + 2) 0)).map (·, q1), J (mnl n m Dd i), q1⟩,
                ⟨(loadT Tryz.prog q2 3 (ptr (h.next + 2) 0)).map (·, q2), J (mnl n m Dd i), q2⟩,
                ⟨(loadT Tryz.prog q3 3 (ptr (h.next + 2) 0)).map (·, q3), J (mnl n m Dd i), q3⟩,
                ⟨(loadT Tryz.prog q4 3 (ptr (h.next + 2) 0)).map (·, q4), J (mnl n m Dd i), q4⟩,
                ⟨(loadT Tryz.prog q1 70 (ptr h.next 0)).map (·, q1), ptr bd 0, q1⟩,
                ⟨(loadT Tryz.prog r' 70 (ptr h.next 0)).map (·, r'), ptr bd 0, r'⟩,
                ⟨(loadT Tryz.prog q1 70 (ptr h.next 0)).map (·, q1), ptr bd 0, q1⟩,
                ⟨(loadT Tryz.prog q3 70 (ptr h.next 0)).map (·, q3), ptr bd 0, q3⟩,
                ⟨(loadT Tryz.prog r' 76 (ptr (h.next + 1) 0)).map (·, r'), keyV m v, r'⟩,
                ⟨(loadT Tryz.prog q1 76 (ptr (h.next + 1) 0)).map (·, q1), keyV m v, q1⟩] (by kernel_rfl)
                ⟨by show (loadT Tryz.prog q1 3 (ptr (h.next + 2) 0)).map (·, q1) = some (J (mnl n m Dd i), q1); rw [load1 (v := J (mnl n m Dd i)) agI a1 rfl]; rfl,
                by show (loadT Tryz.prog q2 3 (ptr (h.next + 2) 0)).map (·, q2) = some (J (mnl n m Dd i), q2); rw [load1 (v := J (mnl n m Dd i)) agI a2 rfl]; rfl,
                by show (loadT Tryz.prog q3 3 (ptr (h.next + 2) 0)).map (·, q3) = some (J (mnl n m Dd i), q3); rw [load1 (v := J (mnl n m Dd i)) agI a3 rfl]; rfl,
                by show (loadT Tryz.prog q4 3 (ptr (h.next + 2) 0)).map (·, q4) = some (J (mnl n m Dd i), q4); rw [load1 (v := J (mnl n m Dd i)) agI t4 rfl]; rfl,
                by show (loadT Tryz.prog q1 70 (ptr h.next 0)).map (·, q1) = some (ptr bd 0, q1); rw [load1 (v := ptr bd 0) (by kernel_rfl) b1 rfl]; rfl,
                by show (loadT Tryz.prog r' 70 (ptr h.next 0)).map (·, r') = some (ptr bd 0, r'); rw [load1 (v := ptr bd 0) (by kernel_rfl) r0 rfl]; rfl,
                by show (loadT Tryz.prog q1 70 (ptr h.next 0)).map (·, q1) = some (ptr bd 0, q1); rw [load1 (v := ptr bd 0) (by kernel_rfl) b1 rfl]; rfl,
                by show (loadT Tryz.prog q3 70 (ptr h.next 0)).map (·, q3) = some (ptr bd 0, q3); rw [load1 (v := ptr bd 0) (by kernel_rfl) b3 rfl]; rfl,
                by show (loadT Tryz.prog r' 76 (ptr (h.next + 1) 0)).map (·, r') = some (keyV m v, r'); rw [load2 agP szP r1]; rfl,
                by show (loadT Tryz.prog q1 76 (ptr (h.next + 1) 0)).map (·, q1) = some (keyV m v, q1); rw [load2 agP szP d1]; rfl, trivial⟩ ?_
              have Rl5 : q5.get (H5.next + 2) = some ((rcOf Tryz.prog 42 0).obj F1 (H5.next + 1) .busy none) := by rw [P5 _ (by omega), k4 _ (by omega) (by omega)]; exact Rl
              have g5 := Dq4.blk.1
              have neq : ∀ i, m &&& 2 ^ i = 0 → ∀ a, (m ||| 2 ^ i) &&& a = m ||| 2 ^ i → m &&& a = m ∧ a ≠ m := fun i hz a ha => by
                refine ⟨sb_iff.2 fun j hj => sb_iff.1 ha j (by rw [Nat.testBit_or, hj]; rfl), fun hc => ?_⟩
                have h1 := sb_iff.1 ha i (by rw [Nat.testBit_or, Nat.testBit_two_pow_self, Bool.or_true])
                rw [hc, (and_bit m i).1 hz] at h1
                cases h1
              have new4 : ∀ e ∈ es4, e ∈ es ∨ ∃ a b, e.key = keyV a b ∧ m &&& a = m ∧ a ≠ m := fun e he => by
                rcases N4 e he with h1 | ⟨a, b, h1, h2⟩
                · rcases N2 e h1 with h1 | ⟨a, b, h1, h2⟩
                  · exact newr e h1
                  · exact .inr ⟨a, b, h1, neq i hz0 a h2⟩
                · exact .inr ⟨a, b, h1, neq i hz0 a h2⟩
              refine ok_go 0 ?_
              refine sy_round 0 (by kernel_rfl) Rl5 ?_
              refine ok_go 0 ?_
              refine sy_done 0 (v := .bool true) (h := q5.put (H5.next + 2) ((rcOf Tryz.prog 42 0).obj F1 (H5.next + 1) .ready none)) (by kernel_rfl) ⟨rfl, es4, cl4, ⟨by show HH.next ≤ q4.next; omega, fun j hj hm' => ?_⟩, ?_, Dq4.ok, new4, ?_, get_put _ _ _⟩
              · have hm'' : j ≠ mid ∧ j ≠ h.next + 2 ∧ j ≠ H5.next + 2 := by simpa using hm'
                rw [Hp.get_put_ne hm''.2.2, P5 _ hm''.2.1, k4 _ (by omega) hm''.1]; exact K j hj hm''.1 hm''.2.1 hm''.2.2
              · rw [Hp.get_put_ne (by omega), P5 _ (by omega)]; exact Dq4.mp.2
              · rw [Hp.get_put_ne (by omega)]; exact t5
            · intro hz
              rw [hand] at hz
              refine ok_go 0 ?_
              refine sy_round 0 (by kernel_rfl) Rl ?_
              refine ok_go 0 ?_
              refine sy_done 0 (v := .bool true) (h := r'.put (H5.next + 2) ((rcOf Tryz.prog 42 0).obj F1 (H5.next + 1) .ready none)) (by kernel_rfl) ⟨rfl, es1, cl1, ⟨by show _ ≤ r'.next; omega, fun j hj hm' => ?_⟩, ?_, okr, newr, ?_, get_put _ _ _⟩
              · have hm'' : j ≠ mid ∧ j ≠ h.next + 2 ∧ j ≠ H5.next + 2 := by simpa using hm'
                rw [Hp.get_put_ne hm''.2.2]; exact K j hj hm''.1 hm''.2.1 hm''.2.2
              · rw [Hp.get_put_ne (by omega), R' _ (by omega)]; exact Mr
              · rw [Hp.get_put_ne (by omega), mnl, if_neg (by rw [hz]; decide)]; exact r2
          obtain ⟨w, g', e, rfl, hI⟩ := key
          exact ⟨g', e, hI⟩
        obtain ⟨w, h3, ev, hI3⟩ := single_run n (by omega) lf (F + 1) H5.next (H5.next + 2) hlf (some ⟨b0, 0, none⟩) c Inv (fun _ => False) hb (fun i q hi hq => .inl (hy i q hi hq)) (h := HH)
          ⟨es, cl, ⟨Nat.le_refl _, fun _ _ _ => rfl⟩, by rw [Hold _ hmid]; exact gmid, ok, fun e he => .inl he, Hf2, HL⟩
        obtain ⟨es1, cl1, X3, M3, ok3, new3, T3, L3⟩ := hI3.resolve_right id
        refine ⟨w, h3, .ready, none, H5.next + 1, .normal, ev, L3, by decide, rfl, ?_⟩
        have nX3 := X3.next
        let h4 : Hp := h3.put (H5.next + 2) ((rcOf Tryz.prog 42 0).obj F1 (H5.next + 1) .exhausted none)
        have P4 : ∀ j, j ≠ H5.next + 2 → h4.get j = h3.get j := fun j hj => Hp.get_put_ne hj
        have K4 : ∀ j, j < HH.next → j ≠ mid → j ≠ h.next + 2 → j ≠ H5.next + 2 → h4.get j = HH.get j := fun j hj h1 h2 h3' => by rw [P4 j h3']; exact X3.get j hj (by simp; omega)
        have n4' : h4.next = h3.next := rfl
        have f0T : h4.get h.next = some (.cells [ptr bd 0] 70 false) := (K4 _ (by omega) (by omega) (by omega) (by omega)).trans Hf0
        have f1T : h4.get (h.next + 1) = some (.cells [J m, J v] 76 false) := (K4 _ (by omega) (by omega) (by omega) (by omega)).trans Hf1
        have f2T : h4.get (h.next + 2) = some (.cells [J (mnl n m Dd n)] 3 false) := by rw [P4 _ (by omega)]; exact T3
        have gbT : h4.get bd = some (.cells [.slice (some ⟨b0, 0, none⟩) (2 ^ n) c, .map (some mid)] 73 false) := by rw [K4 _ (by omega) hne.1 (by omega) (by omega), Hold _ hbd]; exact gbd
        have gmT : h4.get mid = some (.map es1 cl1) := by rw [P4 _ (by omega)]; exact M3
        have okT := ok3
        have keyT : ∀ e ∈ es1, e.key ≠ keyV m v := fun e he hc => by
          rcases new3 e he with h1 | ⟨a, b, h1, _, h2⟩
          · exact hnone e h1 hc
          · rw [h1] at hc; exact h2 (key_inj hc).1
        have newT : New m es es1 := fun e he => by
          rcases new3 e he with h1 | ⟨a, b, h1, h2, _⟩
          · exact .inl h1
          · exact .inr ⟨a, b, h1, h2⟩
        have hVL : mnl n m Dd n = Lf f n m v := by rw [Lf_eq f n m v hm, if_neg (by rw [hal]; decide)]
        have hup := upd_ok m v (Lf f n) es1 okT keyT h4 mid cl1 gmT (J (mnl n m Dd n))
        have gt7 : (h4.put mid (.map (es1 ++ [{ key := keyV m v, val := J (mnl n m Dd n), born := cl1 }]) (cl1 + 1))).get (h.next + 2) = some (.cells [J (mnl n m Dd n)] 3 false) := by rw [Hp.get_put_ne (by omega)]; exact f2T
        refine ok_go 0 ?_
        refine sy_load 0 (r := loadT Tryz.prog h4 70 (ptr h.next 0)) (h' := h4) (v := ptr bd 0) (by kernel_rfl) (load1 (by kernel_rfl) f0T rfl) ?_
        refine ok_go 2 ?_
        refine sy_load 0 (r := loadT Tryz.prog h4 71 (ptr bd 1)) (h' := h4) (v := .map (some mid)) (by kernel_rfl) (load1 (by kernel_rfl) gbT rfl) ?_
        refine ok_go 0 ?_
        refine sy_load 0 (r := loadT Tryz.prog h4 76 (ptr (h.next + 1) 0)) (h' := h4) (v := keyV m v) (by kernel_rfl) (load2 agP szP f1T) ?_
        refine ok_go 0 ?_
        refine sy_load 0 (r := loadT Tryz.prog h4 3 (ptr (h.next + 2) 0)) (h' := h4) (v := J (mnl n m Dd n)) (by kernel_rfl) (load1 agI f2T rfl) ?_
        refine ok_go 0 ?_
        refine sy_store 0 (r := mapUpdateOp Tryz.prog h4 71 (.map (some mid)) (keyV m v) (J (mnl n m Dd n))) (h' := h4.put mid (.map (es1 ++ [{ key := keyV m v, val := J (mnl n m Dd n), born := cl1 }]) (cl1 + 1))) (by kernel_rfl) hup ?_
        refine ok_go 0 ?_
        refine sy_load 0 (r := loadT Tryz.prog (h4.put mid (.map (es1 ++ [{ key := keyV m v, val := J (mnl n m Dd n), born := cl1 }]) (cl1 + 1))) 3 (ptr (h.next + 2) 0)) (h' := h4.put mid (.map (es1 ++ [{ key := keyV m v, val := J (mnl n m Dd n), born := cl1 }]) (cl1 + 1))) (v := J (mnl n m Dd n)) (by kernel_rfl) (load1 agI gt7 rfl) ?_
        have okN : MapOk (Lf f n) (es1 ++ [{ key := keyV m v, val := J (mnl n m Dd n), born := cl1 }]) := fun e he => by
          rcases List.mem_append.1 he with h1 | h1
          · exact okT e h1
          · have h1 : e = _ := List.mem_singleton.1 h1
            rw [h1]
            exact ⟨m, v, rfl, by rw [hVL]⟩
        have newN : New m es (es1 ++ [{ key := keyV m v, val := J (mnl n m Dd n), born := cl1 }]) := fun e he => by
          rcases List.mem_append.1 he with h1 | h1
          · exact newT e h1
          · have h1 : e = _ := List.mem_singleton.1 h1
            rw [h1]
            exact .inr ⟨m, v, rfl, Nat.and_self m⟩
        refine ok_go 0 ?_
        refine sy_marks 0 (h := h4.put mid (.map (es1 ++ [{ key := keyV m v, val := J (mnl n m Dd n), born := cl1 }]) (cl1 + 1))) [H5.next + 1] (by kernel_rfl) (by simp) (fun d hd => ?_) fun h9 n9 o9 => ?_
        · have hd : d = H5.next + 1 := by simpa using hd
          subst hd
          rw [Hp.get_put_ne (by omega), K4 _ (by omega) (by omega) (by omega) (by omega)]; exact HD
        refine ok_go 0 ?_
        refine sy_done 0 (v := J (mnl n m Dd n)) (h := h9) (by kernel_rfl) ⟨by rw [hVL], _, _, ⟨⟨?_, ?_⟩, ⟨?_, (o9 mid (by simp; omega)).trans (get_put _ _ _)⟩, hne, okN, ?_⟩, newN, ⟨?_, fun j hj hm' => ?_⟩⟩
        · rw [n9]; show bd < h3.next; omega
        · rw [o9 _ (by simp; omega), Hp.get_put_ne hne.1]; exact gbT
        · rw [n9]; show mid < h3.next; omega
        · obtain ⟨o, e⟩ := A.get
          have hb0 := A.lt
          refine ⟨by rw [n9]; show b0 < h3.next; omega, o, ?_⟩
          rw [o9 _ (by simp; omega), Hp.get_put_ne hne.2, K4 _ (by omega) hne.2 (by omega) (by omega), Hold _ hb0]; exact e
        · rw [n9]; show h.next ≤ h3.next; omega
        · have hm'' : j ≠ mid := by simpa using hm'
          rw [o9 _ (by simp; omega), Hp.get_put_ne hm'', K4 _ (by omega) hm'' (by omega) (by omega)]; exact Hold j hj
      · intro hal
        rw [Bool.not_eq_false'] at hal
        have f0T := f0
        have f1T := f1
        have f2T := f2
        have gbT := gb5
        have gmT := gm5
        have okT := ok
        have keyT := hnone
        have newT := New.refl m es
        have hVL : 0 = Lf f n m v := by rw [Lf_eq f n m v hm, if_pos hal]
        have hup := upd_ok m v (Lf f n) es okT keyT H5 mid cl gmT (J 0)
        have gt7 : (H5.put mid (.map (es ++ [{ key := keyV m v, val := J 0, born := cl }]) (cl + 1))).get (h.next + 2) = some (.cells [J 0] 3 false) := by rw [Hp.get_put_ne (by omega)]; exact f2T
        refine ok_go 0 ?_
        refine sy_load 0 (r := loadT Tryz.prog H5 70 (ptr h.next 0)) (h' := H5) (v := ptr bd 0) (by kernel_rfl) (load1 (by kernel_rfl) f0T rfl) ?_
        refine ok_go 2 ?_
        refine sy_load 0 (r := loadT Tryz.prog H5 71 (ptr bd 1)) (h' := H5) (v := .map (some mid)) (by kernel_rfl) (load1 (by kernel_rfl) gbT rfl) ?_
        refine ok_go 0 ?_
        refine sy_load 0 (r := loadT Tryz.prog H5 76 (ptr (h.next + 1) 0)) (h' := H5) (v := keyV m v) (by kernel_rfl) (load2 agP szP f1T) ?_
        refine ok_go 0 ?_
        refine sy_load 0 (r := loadT Tryz.prog H5 3 (ptr (h.next + 2) 0)) (h' := H5) (v := J 0) (by kernel_rfl) (load1 agI f2T rfl) ?_
        refine ok_go 0 ?_
        refine sy_store 0 (r := mapUpdateOp Tryz.prog H5 71 (.map (some mid)) (keyV m v) (J 0)) (h' := H5.put mid (.map (es ++ [{ key := keyV m v, val := J 0, born := cl }]) (cl + 1))) (by kernel_rfl) hup ?_
        refine ok_go 0 ?_
        refine sy_load 0 (r := loadT Tryz.prog (H5.put mid (.map (es ++ [{ key := keyV m v, val := J 0, born := cl }]) (cl + 1))) 3 (ptr (h.next + 2) 0)) (h' := H5.put mid (.map (es ++ [{ key := keyV m v, val := J 0, born := cl }]) (cl + 1))) (v := J 0) (by kernel_rfl) (load1 agI gt7 rfl) ?_
        have okN : MapOk (Lf f n) (es ++ [{ key := keyV m v, val := J 0, born := cl }]) := fun e he => by
          rcases List.mem_append.1 he with h1 | h1
          · exact okT e h1
          · have h1 : e = _ := List.mem_singleton.1 h1
            rw [h1]
            exact ⟨m, v, rfl, by rw [hVL]⟩
        have newN : New m es (es ++ [{ key := keyV m v, val := J 0, born := cl }]) := fun e he => by
          rcases List.mem_append.1 he with h1 | h1
          · exact newT e h1
          · have h1 : e = _ := List.mem_singleton.1 h1
            rw [h1]
            exact .inr ⟨m, v, rfl, Nat.and_self m⟩
        refine ok_go 1 ?_
        refine sy_done 0 (v := J 0) (h := H5.put mid (.map (es ++ [{ key := keyV m v, val := J 0, born := cl }]) (cl + 1))) (by kernel_rfl) ⟨by rw [hVL], _, _, ⟨⟨by show bd < H5.next; omega, by rw [Hp.get_put_ne hne.1]; exact gb5⟩, ⟨by show mid < H5.next; omega, get_put _ _ _⟩, hne, okN, ?_⟩, newN, ⟨by show h.next ≤ H5.next; omega, fun j hj hm' => ?_⟩⟩
        · obtain ⟨o, e⟩ := A.get
          have hb0 := A.lt
          exact ⟨by show b0 < H5.next; omega, o, by rw [Hp.get_put_ne hne.2, X45.get _ hb0]; exact e⟩
        · rw [Hp.get_put_ne (by simpa using hm')]; exact X45.get j hj
  obtain ⟨y, h', e, rfl, es', cl', r⟩ := main
  exact ⟨h', es', cl', e, r⟩
theorem least_all (f : Nat → Bool) (n : Nat) (hn : n ≤ 5) (lf bd b0 c mid : Nat) (hlf : 300 ≤ lf) : ∀ d k m v, m < 2 ^ n → v < 2 ^ n → 2 ^ n - m ≤ d → Least f n lf (3 * d + k + 1) bd b0 c mid m v
  | 0, k, m, v, hm, _, h => by omega
  | d + 1, k, m, v, hm, hv, h => by
    have hp32 : 2 ^ n ≤ 32 := Nat.pow_le_pow_right (n := 2) (by decide) hn
    have hi2 : ∀ i, i < n → 2 ^ i < 2 ^ n := fun i hi => Nat.pow_lt_pow_right (by decide) hi
    rw [show 3 * (d + 1) + k + 1 = (3 * d + k + 1) + 3 by omega]
    refine least_of f n hn lf bd b0 c mid hlf (3 * d + k + 1) m v hm hv (fun h A D => const_of f (2 ^ n) (by omega) lf (3 * d + k + 2) hlf b0 c bd m v hv (by omega) h A D)
      (fun i s h hi => with_of lf (3 * d + k) m v (2 ^ i) s (by omega) (by omega) (by have := hi2 i hi; omega) h) fun i w hi hz hw => ?_
    have h1 := or_gt hz
    have h2 : m ||| 2 ^ i < 2 ^ n := or_small hm (hi2 i hi)
    have h3 : w < 2 ^ n := by
      rcases hw with rfl | rfl
      · exact hv
      · exact or_small hv (hi2 i hi)
    exact least_all f n hn lf bd b0 c mid hlf d k _ w h2 h3 (by omega)
theorem few_of (n : Nat) (hn : n ≤ 5) (lf m : Nat) (a : Option Addr) (c : Nat) (h : Hp) (ck : Ev lf m 5 [.slice a (2 ^ n) c] h = some (J 0, h)) : Ev lf (m + 1) 41 [.slice a (2 ^ n) c, J 5] h = some (J 0, h) := by
  have hp32 : 2 ^ n ≤ 32 := Nat.pow_le_pow_right (n := 2) (by decide) hn
  refine fn_eq ?_
  generalize hN : 2 ^ n = N at *
  refine ok_go 0 ?_
  refine sy_call 0 (by kernel_rfl) ck ?_
  refine ok_go 6 ?_
  refine sy_no 0 (b := decide (Int.ofNat N > 32)) (by kernel_rfl) (decide_eq_false (by show ¬ ((32 : Int) < (N : Int)); omega)) ?_
  refine ok_go 0 ?_
  exact sy_done 0 (v := J 0) (h := h) (by kernel_rfl) ⟨rfl, rfl⟩
theorem depth_of (f : Nat → Bool) (n : Nat) (lf m : Nat) (b0 c : Nat) (h : Hp) (A : ArB b0 (2 ^ n) f h)
    (fe : ∀ h, Ev lf m 41 [.slice (some ⟨b0, 0, none⟩) (2 ^ n) c, J 5] h = some (J 0, h))
    (le : ∀ bd mid, Least f n lf m bd b0 c mid 0 0) : ∃ v h', Ev lf (m + 1) 14 [.slice (some ⟨b0, 0, none⟩) (2 ^ n) c] h = some (v, h') ∧ v = .tuple #[J (Lf f n 0 0), J 0] ∧ h.Ext h' := by
  refine fnS_ok (Q := fun v h' => v = .tuple #[J (Lf f n 0 0), J 0] ∧ h.Ext h') ?_
  have hb0 := A.lt
  let H1 : Hp := h.new (.map [] 0)
  let H2 : Hp := H1.new (.cells [.slice (some ⟨b0, 0, none⟩) (2 ^ n) c, .map (some h.next)] 73 false)
  refine ok_go 0 ?_
  refine sy_call 0 (by kernel_rfl) (fe h) ?_
  have X2 : h.Ext H2 := (Hp.Ext.new h _).trans (Hp.Ext.new H1 _)
  have g1 : H2.get h.next = some (.map [] 0) := by
    show (H1.new _).get h.next = _
    rw [Hp.get_new_ne (show h.next ≠ H1.next from Nat.ne_of_lt (Nat.lt_succ_self _))]
    exact get_new h _
  have D : Dm f n (h.next + 1) b0 c h.next [] 0 H2 := ⟨⟨by show h.next + 1 < h.next + 2; omega, get_new H1 _⟩, ⟨by show h.next < h.next + 2; omega, g1⟩, ⟨by omega, by omega⟩, fun e he => absurd he List.not_mem_nil, A.ext X2⟩
  obtain ⟨h', es', cl', e, D', _, X'⟩ := le (h.next + 1) h.next H2 [] 0 D
  refine ok_go 6 ?_
  refine sy_call 0 (by kernel_rfl) e ?_
  refine ok_go 0 ?_
  exact sy_done 0 (v := .tuple #[J (Lf f n 0 0), J 0]) (h := h') (by kernel_rfl) ⟨rfl, by have h1 := X'.next; have h2 := X2.next; omega, fun j hj => by rw [X'.get j (by have := X2.next; omega) (by simp; omega)]; exact X2.get j hj⟩
theorem wrap_add {a b : Nat} (h : a + b < 2 ^ 62) : IntKind.wrap .i64 (Int.ofNat a + Int.ofNat b) = Int.ofNat (a + b) := wrap_nat (by omega)
/-- A tree: a bit, a value, the parts. -/
inductive RT where
  | mk (b : Int) (w : Bool) (l : List RT)
def RT.b : RT → Int
  | mk b _ _ => b
def RT.w : RT → Bool
  | mk _ w _ => w
def RT.l : RT → List RT
  | mk _ _ l => l
/-- So many cells of a block. -/
def objLoad (o : AObj) (off n : Nat) : Option (List Value) :=
  match o with
  | .cells cs _ _ => takeN n (cs.drop off)
  | .ro q cs _ => match Nat.ble q off with
    | true => takeN n (cs.drop (off - q))
    | false => none
  | .fro cs _ => takeN n (cs.drop off)
  | _ => none
/-- The cells of a list of trees. -/
def Els (A : Value → RT → Prop) : List Value → List RT → Prop
  | cs, [] => cs = []
  | cs, t :: r => ∃ x y z q, cs = x :: y :: z :: q ∧ A (.agg #[x, y, z]) t ∧ Els A q r
/-- A tree of at most d levels, by the blocks of a list. -/
def At (L : List (Nat × AObj)) : Nat → Value → RT → Prop
  | 0, v, t => t.l = [] ∧ ∃ a c, v = .agg #[I t.b, .bool t.w, .slice a 0 c]
  | d + 1, v, t => ∃ a c, v = .agg #[I t.b, .bool t.w, .slice a t.l.length c] ∧ (t.l ≠ [] → ∃ i off o cs, a = some ⟨i, off, none⟩ ∧ (i, o) ∈ L ∧ objLoad o off (t.l.length * 3) = some cs ∧ Els (At L d) cs t.l)
theorem Els.mono {A B : Value → RT → Prop} (hs : ∀ v t, A v t → B v t) : ∀ {cs : List Value} {ts : List RT}, Els A cs ts → Els B cs ts
  | _, [], h => h
  | _, _ :: _, ⟨x, y, z, q, e, h1, h2⟩ => ⟨x, y, z, q, e, hs _ _ h1, Els.mono hs h2⟩
theorem At.mono {L L' : List (Nat × AObj)} (hs : ∀ p ∈ L, p ∈ L') : ∀ {d : Nat} {v : Value} {t : RT}, At L d v t → At L' d v t
  | 0, _, _, h => h
  | d + 1, _, _, ⟨a, c, e, h⟩ => ⟨a, c, e, fun hn => by
    obtain ⟨i, off, o, cs, e1, e2, e3, e4⟩ := h hn
    exact ⟨i, off, o, cs, e1, hs _ e2, e3, Els.mono (fun _ _ => At.mono hs) e4⟩⟩
theorem At.up {L : List (Nat × AObj)} : ∀ {d : Nat} {v : Value} {t : RT}, At L d v t → At L (d + 1) v t
  | 0, v, t, ⟨h1, a, c, e⟩ => ⟨a, c, by rw [h1]; exact e, fun hn => absurd h1 hn⟩
  | d + 1, _, _, ⟨a, c, e, h⟩ => ⟨a, c, e, fun hn => by
    obtain ⟨i, off, o, cs, e1, e2, e3, e4⟩ := h hn
    exact ⟨i, off, o, cs, e1, e2, e3, Els.mono (fun _ _ => At.up) e4⟩⟩
theorem At.le {L : List (Nat × AObj)} {d : Nat} {v : Value} {t : RT} (h : At L d v t) : ∀ k, At L (d + k) v t
  | 0 => h
  | k + 1 => (At.le h k).up
theorem At.shape {L : List (Nat × AObj)} : ∀ {d : Nat} {v : Value} {t : RT}, At L d v t → ∃ a c, v = .agg #[I t.b, .bool t.w, .slice a t.l.length c]
  | 0, _, _, ⟨h1, a, c, e⟩ => ⟨a, c, by rw [h1]; exact e⟩
  | d + 1, _, _, ⟨a, c, e, _⟩ => ⟨a, c, e⟩
theorem ite_max (a b : Nat) : (if Int.ofNat b > Int.ofNat a then Int.ofNat b else Int.ofNat a) = Int.ofNat (max a b) := by
  by_cases h : a < b
  · rw [if_pos (by show (a : Int) < (b : Int); omega), Nat.max_eq_right (by omega)]
  · rw [if_neg (by show ¬ (a : Int) < (b : Int); omega), Nat.max_eq_left (by omega)]
/-- Whether a bit is the one to ask for first. -/
def cho (f : Nat → Bool) (n m v i : Nat) : Bool := (m &&& 2 ^ i == 0) && (1 + max (Lf f n (m ||| 2 ^ i) v) (Lf f n (m ||| 2 ^ i) (v ||| 2 ^ i)) == Lf f n m v)
/-- The program's tree, of at most so many levels. -/
def trF (f : Nat → Bool) (n : Nat) : Nat → Nat → Nat → RT
  | 0, _, _ => .mk 0 false []
  | d + 1, m, v => if al (cq f m v) (2 ^ n) = true then .mk 0 (f v) [] else match (List.range n).find? (cho f n m v) with
    | some i => .mk (Int.ofNat i) false [trF f n d (m ||| 2 ^ i) v, trF f n d (m ||| 2 ^ i) (v ||| 2 ^ i)]
    | none => .mk 0 false []
theorem least_sto {f : Nat → Bool} {n lf F bd b0 c mid m v : Nat} {hb h : Hp} {l : List (Nat × AObj)} {es : List MapEntry} {cl : Nat} (le : Least f n lf F bd b0 c mid m v) (A : ArB b0 (2 ^ n) f hb) (ok : MapOk (Lf f n) es) (W : Sto hb h l) (k j : Nat)
    (hk : l[k]? = some (mid, .map es cl)) (hj : l[j]? = some (bd, .cells [.slice (some ⟨b0, 0, none⟩) (2 ^ n) c, .map (some mid)] 73 false)) :
    ∃ h' es' cl', Ev lf F 42 [ptr bd 0, keyV m v] h = some (J (Lf f n m v), h') ∧ MapOk (Lf f n) es' ∧ Sto hb h' (l.set k (mid, .map es' cl')) := by
  have hne : bd ≠ mid := fun e => by
    have h1 := W.get j hj
    have h2 := W.get k hk
    rw [e, h2] at h1
    cases h1
  obtain ⟨h', es', cl', e, D, _, X⟩ := le h es cl ⟨⟨W.lt j hj, W.get j hj⟩, ⟨W.lt k hk, W.get k hk⟩, ⟨hne, by have := W.ge k hk; have := A.lt; omega⟩, ok, A.ext W.ext⟩
  exact ⟨h', es', cl', e, D.ok, W.chg k hk X.next (fun q hq hn => X.get q hq (by simpa using hn)) D.mp.2⟩
theorem perm_up {α : Type} {P F l : List α} : (P ++ (F ++ l)).Perm (F ++ (P ++ l)) := by
  rw [← List.append_assoc, ← List.append_assoc]
  exact List.Perm.append_right l List.perm_append_comm
theorem perm_dn {α : Type} {P F L l : List α} : (F ++ (L ++ (P ++ l))).Perm (P ++ (F ++ (L ++ l))) :=
  (List.Perm.append_left F perm_up).trans perm_up
theorem perm_in {α : Type} {a : α} {P F X : List α} : (a :: (P ++ (F ++ X))).Perm (P ++ (F ++ (a :: X))) := by
  rw [← List.append_assoc, ← List.append_assoc]
  exact List.perm_middle.symm
theorem find_none {p : Nat → Bool} {n : Nat} (h : ∀ j, j < n → p j = false) : (List.range n).find? p = none := by
  rw [List.find?_eq_none]
  intro x hx
  rw [h x (List.mem_range.1 hx)]
  decide
theorem find_someD {p : Nat → Bool} {n i : Nat} (hi : i < n) (hp : p i = true) (h : ∀ j, j < i → p j = false) : (List.range n).find? p = some i := by
  have e : List.range n = List.range i ++ (i :: (List.range n).drop (i + 1)) := by
    have h1 : (List.range n).drop i = i :: (List.range n).drop (i + 1) := by
      rw [List.drop_eq_getElem_cons (by rw [List.length_range]; exact hi), List.getElem_range]
    rw [← h1]
    have h2 := List.take_append_drop i (List.range n)
    rw [List.take_range, Nat.min_eq_left (Nat.le_of_lt hi)] at h2
    exact h2.symm
  rw [e, List.find?_append, find_none h, List.find?_cons_of_pos hp]
  rfl
/-- What stands ready for the growing: the map, the decider, the two cells of the closure. -/
def fxL (N b0 c bd mid bD bG : Nat) (es : List MapEntry) (cl : Nat) : List (Nat × AObj) :=
  [(mid, .map es cl), (bd, .cells [.slice (some ⟨b0, 0, none⟩) N c, .map (some mid)] 73 false), (bD, .cells [ptr bd 0] 70 false), (bG, .cells [.func (.func 66) #[] #[ptr bD 0, ptr bG 0]] 105 false)]
def Grow (f : Nat → Bool) (n lf F : Nat) (hb : Hp) (b0 c bd mid bD bG d m v : Nat) : Prop := ∀ h es cl l, MapOk (Lf f n) es → Sto hb h (fxL (2 ^ n) b0 c bd mid bD bG es cl ++ l) →
  ∃ y h' es' cl' L, Ev lf F 66 [keyV m v, ptr bD 0, ptr bG 0] h = some (y, h') ∧ MapOk (Lf f n) es' ∧ Sto hb h' (fxL (2 ^ n) b0 c bd mid bD bG es' cl' ++ (L ++ l)) ∧ At L d y (trF f n d m v)
theorem grow_step (f : Nat → Bool) (n : Nat) (hn : n ≤ 5) (F : Nat) (hb : Hp) (b0 c bd mid bD bG d m v : Nat) (hm : m < 2 ^ n) (hv : v < 2 ^ n) (A : ArB b0 (2 ^ n) f hb)
    (co : ∀ h, ArB b0 (2 ^ n) f h → Dcd bd b0 (2 ^ n) c h → ∃ y h', Ev 100000 (F + 2) 64 [ptr bd 0, keyV m v] h = some (y, h') ∧ y = .tuple #[.bool (f v), .bool (al (cq f m v) (2 ^ n))] ∧ h.Ext h')
    (wi : ∀ i s h, i < n → ∃ y h', Ev 100000 F 65 [keyV m v, J (2 ^ i), .bool s] h = some (y, h') ∧ y = keyV (m ||| 2 ^ i) (if s = true then v ||| 2 ^ i else v) ∧ h.Ext h')
    (le : ∀ m v, m < 2 ^ n → v < 2 ^ n → Least f n 100000 F bd b0 c mid m v)
    (rec_ : ∀ i w, i < n → m &&& 2 ^ i = 0 → (w = v ∨ w = v ||| 2 ^ i) → Grow f n 100000 F hb b0 c bd mid bD bG d (m ||| 2 ^ i) w) : Grow f n 100000 (F + 3) hb b0 c bd mid bD bG (d + 1) m v := by
  intro h es cl l ok W
  have hp32 : 2 ^ n ≤ 32 := Nat.pow_le_pow_right (n := 2) (by decide) hn
  have hi2 : ∀ i, i < n → 2 ^ i < 2 ^ n := fun i hi => Nat.pow_lt_pow_right (by decide) hi
  have main : ∃ y h', Ev 100000 (F + 3) 66 [keyV m v, ptr bD 0, ptr bG 0] h = some (y, h') ∧ ∃ es' cl' L, MapOk (Lf f n) es' ∧ Sto hb h' (fxL (2 ^ n) b0 c bd mid bD bG es' cl' ++ (L ++ l)) ∧ At L (d + 1) y (trF f n (d + 1) m v) := by
    refine fnS_ok (Q := fun y h' => ∃ es' cl' L, MapOk (Lf f n) es' ∧ Sto hb h' (fxL (2 ^ n) b0 c bd mid bD bG es' cl' ++ (L ++ l)) ∧ At L (d + 1) y (trF f n (d + 1) m v)) ?_
    refine ow_new 0 W (AObj.cells [Value.int IntKind.i64 (Int.ofNat m), Value.int IntKind.i64 (Int.ofNat v)] 76 false) (fun q => Value.pointer (some { block := q, off := 0 })) (by kernel_rfl) fun g1 ng1 Wg1 => ?_
    have W := Wg1
    refine ow_new 0 W (AObj.cells [Value.int IntKind.i64 (Int.ofNat 0), Value.bool false, Value.slice none 0 0] 39 false) (fun q => Value.pointer (some { block := q, off := 0 })) (by kernel_rfl) fun g2 ng2 Wg2 => ?_
    have W := Wg2
    refine ow_load (P := Tryz.prog) (T := 70) (off := 0) 0 4 W rfl rfl (by kernel_rfl) (by kernel_rfl) ?_
    refine ow_loadA (P := Tryz.prog) (T := 76) (z := 2) 0 1 W rfl (by kernel_rfl) (by kernel_rfl) rfl (by kernel_rfl) ?_
    obtain ⟨_, g3, ec, rfl, X⟩ := co g2 (A.ext W.ext) ⟨W.lt 3 rfl, .map (some mid), false, W.get 3 rfl⟩
    refine sy_call 0 (by kernel_rfl) ec ?_
    have W := W.call X
    refine ok_go 2 ?_
    refine sy_test 0 (al (cq f m v) (2 ^ n)) (by kernel_rfl) ?_ ?_
    · intro ha
      refine ow_storeA (P := Tryz.prog) (T := 39) (v := Value.agg { toList := [Value.int IntKind.i64 (Int.ofNat 0), Value.bool (f v), Value.slice none 0 0] }) 1 0 W ([Value.int IntKind.i64 (Int.ofNat 0), Value.bool (f v), Value.slice none 0 0]) rfl rfl rfl (by kernel_rfl) (by first | rfl | (repeat' (first | exact rfl | assumption | apply sc_cons))) (by kernel_rfl) fun g4 ng4 Wg4 => ?_
      have W := Wg4
      refine ow_loadA (P := Tryz.prog) (T := 39) (z := 3) 1 0 W rfl (by kernel_rfl) (by kernel_rfl) rfl (by kernel_rfl) ?_
      refine sy_done 0 (v := .agg #[I 0, .bool (f v), .slice none 0 0]) (h := g4) (by kernel_rfl) ⟨es, cl, [], ok, W.drop 2, ?_⟩
      rw [trF, if_pos ha]
      exact ⟨none, 0, rfl, fun hn => absurd rfl hn⟩
    intro ha
    refine ow_new 0 W (AObj.cells [Value.int IntKind.i64 (Int.ofNat 0)] 3 false) (fun q => Value.pointer (some { block := q, off := 0 })) (by kernel_rfl) fun g4 ng4 Wg4 => ?_
    have W := Wg4
    refine ow_store (P := Tryz.prog) (T := 3) (off := 0) (v := Value.int IntKind.i64 (Int.ofNat 0)) 0 0 W rfl (Nat.le_of_ble_eq_true (by kernel_rfl)) (by kernel_rfl) (by first | rfl | assumption) (by kernel_rfl) fun g5 ng5 Wg5 => ?_
    have W := Wg5
    refine ow_load (P := Tryz.prog) (T := 70) (off := 0) 0 5 W rfl rfl (by kernel_rfl) (by kernel_rfl) ?_
    refine ow_load (P := Tryz.prog) (T := 22) (off := 0) 2 4 W rfl rfl (by kernel_rfl) (by kernel_rfl) ?_
    refine ow_new 0 W (AObj.cells [Value.slice (some { block := b0, off := 0 }) (2 ^ n) c] 22 false) (fun q => Value.func (Fn.func 73) { toList := [] } { toList := [Value.pointer (some { block := q, off := 0 })] }) (by kernel_rfl) fun g6 ng6 Wg6 => ?_
    have W := Wg6
    refine ow_range 0 (callF := evInv Tryz.prog orc 100000 (F + 2)) (P := Tryz.prog) (lf := 100000) (m := 63) (rcOf Tryz.prog 66 0) W [(1, ptr bD 0), (2, ptr bG 0), (3, ptr h.next 0), (4, ptr g1.next 0), (7, ptr g3.next 0)] 73 [.func (.yield (g6.next + 1)) #[] #[], ptr g5.next 0]
      (by kernel_rfl) (fun F => by kernel_rfl) ⟨by kernel_rfl, by kernel_rfl, by kernel_rfl, by kernel_rfl, by kernel_rfl, trivial⟩ (by kernel_rfl) (by kernel_rfl) fun F1 f2 HH hr nH W => ?_
    let CC : RC := rcOf Tryz.prog 66 0
    let SL : Value := .slice (some ⟨b0, 0, none⟩) (2 ^ n) c
    let Inv : Nat → Hp → Prop := fun i q => ∃ es cl, MapOk (Lf f n) es ∧ (∀ j, j < i → cho f n m v j = false) ∧ Sto hb q ((g6.next + 1, CC.obj F1 g6.next .ready none) :: (g6.next, .defd false) :: (g5.next, .cells [SL] 22 false) :: (g3.next, .cells [J i] 3 false) :: (g1.next, .cells [I 0, .bool false, .slice none 0 0] 39 false) :: (h.next, .cells [J m, J v] 76 false) :: (fxL (2 ^ n) b0 c bd mid bD bG es cl ++ l))
    let Out : Hp → Prop := fun q => ∃ es cl L i x y z, MapOk (Lf f n) es ∧ i < n ∧ cho f n m v i = true ∧ (∀ j, j < i → cho f n m v j = false) ∧ Sto hb q ((g6.next + 1, CC.obj F1 g6.next .done (some .ret)) :: (g6.next, .defd false) :: (g5.next, .cells [SL] 22 false) :: (g3.next, .cells [J i] 3 false) :: (g1.next, .cells [x, y, z] 39 false) :: (h.next, .cells [J m, J v] 76 false) :: (fxL (2 ^ n) b0 c bd mid bD bG es cl ++ (L ++ l))) ∧
      At L (d + 1) (.agg #[x, y, z]) (.mk (Int.ofNat i) false [trF f n d (m ||| 2 ^ i) v, trF f n d (m ||| 2 ^ i) (v ||| 2 ^ i)])
    have hbx : ∀ i q, Inv i q → loadT Tryz.prog q 22 (ptr g5.next 0) = some (.slice (some ⟨b0, 0, none⟩) (2 ^ n) c) := fun i q ⟨es, cl, _, _, W⟩ => load1 (by kernel_rfl) (W.get 2 rfl) rfl
    have hy : ∀ i q, i < n → Inv i q → (∃ g', evInv Tryz.prog orc 100000 (F + 1) (.yield (g6.next + 1) [J (2 ^ i)]) q = some (.bool true, g') ∧ Inv (i + 1) g') ∨ (∃ g', evInv Tryz.prog orc 100000 (F + 1) (.yield (g6.next + 1) [J (2 ^ i)]) q = some (.bool false, g') ∧ Out g') := fun i q hi ⟨es, cl, ok, hno, W⟩ => by
      have key : ∃ w g', evInv Tryz.prog orc 100000 (F + 1) (.yield (g6.next + 1) [J (2 ^ i)]) q = some (w, g') ∧ ((w = .bool true ∧ Inv (i + 1) g') ∨ (w = .bool false ∧ Out g')) := by
        refine yld_ok (c := CC) (Q := fun w g' => (w = .bool true ∧ Inv (i + 1) g') ∨ (w = .bool false ∧ Out g')) hr (W.get 0 rfl) (by kernel_rfl) ?_
        refine ow_busy 0 0 W rfl (by kernel_rfl) fun q1 nq1 Wq1 => ?_
        have W := Wq1
        refine ow_loadA (P := Tryz.prog) (T := 76) (z := 2) 0 5 W rfl (by kernel_rfl) (by kernel_rfl) rfl (by kernel_rfl) ?_
        obtain ⟨_, q2, ec, e0, X⟩ := wi i false q1 hi
        rw [if_neg (by decide)] at e0
        subst e0
        refine sy_call 0 (by kernel_rfl) ec ?_
        have Wq2 := W.call X
        have W := Wq2
        refine ow_loadA (P := Tryz.prog) (T := 76) (z := 2) 0 5 W rfl (by kernel_rfl) (by kernel_rfl) rfl (by kernel_rfl) ?_
        obtain ⟨_, q3, ec, e0, X⟩ := wi i true q2 hi
        rw [if_pos rfl] at e0
        subst e0
        refine sy_call 0 (by kernel_rfl) ec ?_
        have Wq3 := W.call X
        have W := Wq3
        refine ow_var (P := Tryz.prog) (T := 76) (cs := [Value.int IntKind.i64 (Int.ofNat 0), Value.int IntKind.i64 (Int.ofNat 0)]) (e := 76) (v := Value.agg { toList := [Value.int IntKind.i64 (Int.ofNat (m ||| 2 ^ i)), Value.int IntKind.i64 (Int.ofNat v)] }) 0 W ([Value.int IntKind.i64 (Int.ofNat (m ||| 2 ^ i)), Value.int IntKind.i64 (Int.ofNat v)]) rfl rfl (by kernel_rfl) (by first | rfl | (repeat' (first | exact rfl | assumption | apply sc_cons))) (by kernel_rfl) fun q4 nq4 Wq4 => ?_
        have W := Wq4
        refine ow_var (P := Tryz.prog) (T := 76) (cs := [Value.int IntKind.i64 (Int.ofNat 0), Value.int IntKind.i64 (Int.ofNat 0)]) (e := 76) (v := Value.agg { toList := [Value.int IntKind.i64 (Int.ofNat (m ||| 2 ^ i)), Value.int IntKind.i64 (Int.ofNat (v ||| 2 ^ i))] }) 0 W ([Value.int IntKind.i64 (Int.ofNat (m ||| 2 ^ i)), Value.int IntKind.i64 (Int.ofNat (v ||| 2 ^ i))]) rfl rfl (by kernel_rfl) (by first | rfl | (repeat' (first | exact rfl | assumption | apply sc_cons))) (by kernel_rfl) fun q5 nq5 Wq5 => ?_
        have W := Wq5
        refine sy_need 0 [] [⟨(loadT Tryz.prog q1 76 (ptr (Hp.next h) (0))).map (·, q1), Value.agg { toList := [Value.int IntKind.i64 (Int.ofNat m), Value.int IntKind.i64 (Int.ofNat v)] }, q1⟩] (by kernel_rfl) ⟨ob_loadA (P := Tryz.prog) (T := 76) (k := 5) (z := 2) Wq1 rfl (by kernel_rfl) (by kernel_rfl) rfl, trivial⟩ ?_
        refine ow_load (P := Tryz.prog) (T := 3) (off := 0) 1 7 W rfl rfl (by kernel_rfl) (by kernel_rfl) ?_
        refine ok_go 2 ?_
        have hbm : (andI (Int.ofNat m) (Int.ofNat (2 ^ i)) == 0) = (m &&& 2 ^ i == 0) := by rw [and_nat (by omega)]; exact eq_int _ 0
        have hm1 : m ||| 2 ^ i < 2 ^ n := or_small hm (hi2 i hi)
        have hv1 : v ||| 2 ^ i < 2 ^ n := or_small hv (hi2 i hi)
        refine sy_test 0 (andI (Int.ofNat m) (Int.ofNat (2 ^ i)) == 0) (by kernel_rfl) ?_ ?_
        rotate_left
        · intro hz
          rw [hbm] at hz
          refine ok_go 12 ?_
          refine sy_need 0 [] [] (by kernel_rfl) trivial ?_
          refine ow_load (P := Tryz.prog) (T := 3) (off := 0) 1 5 W rfl rfl (by kernel_rfl) (by kernel_rfl) ?_
          refine ow_store (P := Tryz.prog) (T := 3) (off := 0) (v := Value.int IntKind.i64 (IntKind.wrap IntKind.i64 (Int.ofNat i + 1))) 1 5 W rfl (Nat.le_of_ble_eq_true (by kernel_rfl)) (by kernel_rfl) (by first | rfl | assumption) (by kernel_rfl) fun q6 nq6 Wq6 => ?_
          have W := Wq6
          refine ow_round 0 2 W rfl (by kernel_rfl) fun q7 nq7 Wq7 => ?_
          have W := Wq7
          refine sy_done 0 (v := .bool true) (h := q7) (by kernel_rfl) (.inl ⟨rfl, es, cl, ok, fun j hj => ?_, ?_⟩)
          · rcases Nat.lt_succ_iff_lt_or_eq.1 hj with hj | rfl
            · exact hno j hj
            · rw [cho, hz]; rfl
          · rw [show IntKind.i64.wrap (Int.ofNat i + 1) = Int.ofNat (i + 1) from wrap_add (b := 1) (by omega)] at W
            exact W.drop 2
        intro hz
        rw [hbm] at hz
        refine ow_load (P := Tryz.prog) (T := 70) (off := 0) 0 10 W rfl rfl (by kernel_rfl) (by kernel_rfl) ?_
        refine ow_loadA (P := Tryz.prog) (T := 76) (z := 2) 1 1 W rfl (by kernel_rfl) (by kernel_rfl) rfl (by kernel_rfl) ?_
        refine ok_go 1 ?_
        obtain ⟨q6, es1, cl1, ec1, ok1, Wq6⟩ := least_sto (le (m ||| 2 ^ i) v hm1 hv) A ok W 8 9 rfl rfl
        have W := Wq6
        refine sy_call 0 (by kernel_rfl) ec1 ?_
        refine ow_load (P := Tryz.prog) (T := 70) (off := 0) 1 10 W rfl rfl (by kernel_rfl) (by kernel_rfl) ?_
        refine ow_loadA (P := Tryz.prog) (T := 76) (z := 2) 1 0 W rfl (by kernel_rfl) (by kernel_rfl) rfl (by kernel_rfl) ?_
        refine ok_go 1 ?_
        obtain ⟨q7, es2, cl2, ec2, ok2, Wq7⟩ := least_sto (le (m ||| 2 ^ i) (v ||| 2 ^ i) hm1 hv1) A ok1 W 8 9 rfl rfl
        have W := Wq7
        refine sy_call 0 (by kernel_rfl) ec2 ?_
        refine ow_load (P := Tryz.prog) (T := 70) (off := 0) 5 10 W rfl rfl (by kernel_rfl) (by kernel_rfl) ?_
        refine ow_loadA (P := Tryz.prog) (T := 76) (z := 2) 1 7 W rfl (by kernel_rfl) (by kernel_rfl) rfl (by kernel_rfl) ?_
        refine ok_go 1 ?_
        obtain ⟨q8, es3, cl3, ec3, ok3, Wq8⟩ := least_sto (le m v hm hv) A ok2 W 8 9 rfl rfl
        have W := Wq8
        refine sy_call 0 (by kernel_rfl) ec3 ?_
        refine ok_go 3 ?_
        refine sy_need 0 [] [⟨(loadT Tryz.prog q5 70 (ptr (bD) (0))).map (·, q5), Value.pointer (some { block := bd, off := 0 }), q5⟩, ⟨(loadT Tryz.prog q5 76 (ptr (Hp.next q4) (0))).map (·, q5), Value.agg { toList := [Value.int IntKind.i64 (Int.ofNat (m ||| 2 ^ i)), Value.int IntKind.i64 (Int.ofNat (v ||| 2 ^ i))] }, q5⟩, ⟨some (Value.int IntKind.i64 (if Int.ofNat (Lf f n (m ||| 2 ^ i) (v ||| 2 ^ i)) > Int.ofNat (Lf f n (m ||| 2 ^ i) v) then Int.ofNat (Lf f n (m ||| 2 ^ i) (v ||| 2 ^ i)) else Int.ofNat (Lf f n (m ||| 2 ^ i) v)), q8), Value.int IntKind.i64 (if Int.ofNat (Lf f n (m ||| 2 ^ i) (v ||| 2 ^ i)) > Int.ofNat (Lf f n (m ||| 2 ^ i) v) then Int.ofNat (Lf f n (m ||| 2 ^ i) (v ||| 2 ^ i)) else Int.ofNat (Lf f n (m ||| 2 ^ i) v)), q8⟩, ⟨(loadT Tryz.prog q5 70 (ptr (bD) (0))).map (·, q5), Value.pointer (some { block := bd, off := 0 }), q5⟩, ⟨(loadT Tryz.prog q6 70 (ptr (bD) (0))).map (·, q6), Value.pointer (some { block := bd, off := 0 }), q6⟩, ⟨(loadT Tryz.prog q5 76 (ptr (Hp.next h) (0))).map (·, q5), Value.agg { toList := [Value.int IntKind.i64 (Int.ofNat m), Value.int IntKind.i64 (Int.ofNat v)] }, q5⟩, ⟨(loadT Tryz.prog q6 76 (ptr (Hp.next h) (0))).map (·, q6), Value.agg { toList := [Value.int IntKind.i64 (Int.ofNat m), Value.int IntKind.i64 (Int.ofNat v)] }, q6⟩] (by kernel_rfl) ⟨ob_load (P := Tryz.prog) (T := 70) (k := 10) Wq5 rfl rfl (by kernel_rfl), ob_loadA (P := Tryz.prog) (T := 76) (k := 0) (z := 2) Wq5 rfl (by kernel_rfl) (by kernel_rfl) rfl, rfl, ob_load (P := Tryz.prog) (T := 70) (k := 10) Wq5 rfl rfl (by kernel_rfl), ob_load (P := Tryz.prog) (T := 70) (k := 10) Wq6 rfl rfl (by kernel_rfl), ob_loadA (P := Tryz.prog) (T := 76) (k := 7) (z := 2) Wq5 rfl (by kernel_rfl) (by kernel_rfl) rfl, ob_loadA (P := Tryz.prog) (T := 76) (k := 7) (z := 2) Wq6 rfl (by kernel_rfl) (by kernel_rfl) rfl, trivial⟩ ?_
        have hL1 := Lf_le f n (m ||| 2 ^ i) v
        have hL2 := Lf_le f n (m ||| 2 ^ i) (v ||| 2 ^ i)
        have hcv : (IntKind.wrap .i64 (1 + (if Int.ofNat (Lf f n (m ||| 2 ^ i) (v ||| 2 ^ i)) > Int.ofNat (Lf f n (m ||| 2 ^ i) v) then Int.ofNat (Lf f n (m ||| 2 ^ i) (v ||| 2 ^ i)) else Int.ofNat (Lf f n (m ||| 2 ^ i) v))) == Int.ofNat (Lf f n m v)) = cho f n m v i := by
          rw [ite_max, show IntKind.wrap .i64 (1 + Int.ofNat (max (Lf f n (m ||| 2 ^ i) v) (Lf f n (m ||| 2 ^ i) (v ||| 2 ^ i)))) = Int.ofNat (1 + max (Lf f n (m ||| 2 ^ i) v) (Lf f n (m ||| 2 ^ i) (v ||| 2 ^ i))) from wrap_add (a := 1) (by omega), eq_int, cho, hz, Bool.true_and]
        refine sy_test 0 (IntKind.wrap .i64 (1 + (if Int.ofNat (Lf f n (m ||| 2 ^ i) (v ||| 2 ^ i)) > Int.ofNat (Lf f n (m ||| 2 ^ i) v) then Int.ofNat (Lf f n (m ||| 2 ^ i) (v ||| 2 ^ i)) else Int.ofNat (Lf f n (m ||| 2 ^ i) v))) == Int.ofNat (Lf f n m v)) (by kernel_rfl) ?_ ?_
        rotate_left
        · intro hc
          rw [hcv] at hc
          refine ow_load (P := Tryz.prog) (T := 3) (off := 0) 0 5 W rfl rfl (by kernel_rfl) (by kernel_rfl) ?_
          refine ow_store (P := Tryz.prog) (T := 3) (off := 0) (v := Value.int IntKind.i64 (IntKind.wrap IntKind.i64 (Int.ofNat i + 1))) 1 5 W rfl (Nat.le_of_ble_eq_true (by kernel_rfl)) (by kernel_rfl) (by first | rfl | assumption) (by kernel_rfl) fun q9 nq9 Wq9 => ?_
          have W := Wq9
          refine ow_round 0 2 W rfl (by kernel_rfl) fun q10 nq10 Wq10 => ?_
          have W := Wq10
          refine sy_done 0 (v := .bool true) (h := q10) (by kernel_rfl) (.inl ⟨rfl, es3, cl3, ok3, fun j hj => ?_, ?_⟩)
          · rcases Nat.lt_succ_iff_lt_or_eq.1 hj with hj | rfl
            · exact hno j hj
            · exact hc
          · rw [show IntKind.i64.wrap (Int.ofNat i + 1) = Int.ofNat (i + 1) from wrap_add (b := 1) (by omega)] at W
            exact W.drop 2
        intro hc
        rw [hcv] at hc
        let pre : List (Nat × AObj) := [(q4.next, .cells [J (m ||| 2 ^ i), J (v ||| 2 ^ i)] 76 false), (q3.next, .cells [J (m ||| 2 ^ i), J v] 76 false), (g6.next + 1, CC.obj F1 g6.next .busy none), (g6.next, .defd false), (g5.next, .cells [SL] 22 false), (g3.next, .cells [J i] 3 false), (g1.next, .cells [I 0, .bool false, .slice none 0 0] 39 false), (h.next, .cells [J m, J v] 76 false)]
        have W : Sto hb q8 (pre ++ (fxL (2 ^ n) b0 c bd mid bD bG es3 cl3 ++ l)) := W
        have Wq8 := W
        refine ow_load (P := Tryz.prog) (T := 3) (off := 0) 0 5 W rfl rfl (by kernel_rfl) (by kernel_rfl) ?_
        refine ow_load (P := Tryz.prog) (T := 105) (off := 0) 0 11 W rfl rfl (by kernel_rfl) (by kernel_rfl) ?_
        refine ow_loadA (P := Tryz.prog) (T := 76) (z := 2) 0 1 W rfl (by kernel_rfl) (by kernel_rfl) rfl (by kernel_rfl) ?_
        have hz' : m &&& 2 ^ i = 0 := eq_of_beq hz
        obtain ⟨y1, q9, es4, cl4, L1, ec4, ok4, W', A1⟩ := rec_ i v hi hz' (.inl rfl) q8 es3 cl3 (pre ++ l) ok3 (W.perm perm_up)
        have Wq9 : Sto hb q9 (pre ++ (fxL (2 ^ n) b0 c bd mid bD bG es4 cl4 ++ (L1 ++ l))) := W'.perm perm_dn
        have W := Wq9
        obtain ⟨a1, c1, rfl⟩ := A1.shape
        refine sy_call 0 (by kernel_rfl) ec4 ?_
        refine ow_load (P := Tryz.prog) (T := 105) (off := 0) 0 11 W rfl rfl (by kernel_rfl) (by kernel_rfl) ?_
        refine ow_loadA (P := Tryz.prog) (T := 76) (z := 2) 0 0 W rfl (by kernel_rfl) (by kernel_rfl) rfl (by kernel_rfl) ?_
        obtain ⟨y2, q10, es5, cl5, L2, ec5, ok5, W', A2⟩ := rec_ i (v ||| 2 ^ i) hi hz' (.inr rfl) q9 es4 cl4 (pre ++ (L1 ++ l)) ok4 (W.perm perm_up)
        have Wq10 : Sto hb q10 (pre ++ (fxL (2 ^ n) b0 c bd mid bD bG es5 cl5 ++ (L2 ++ (L1 ++ l)))) := W'.perm perm_dn
        have W := Wq10
        obtain ⟨a2, c2, rfl⟩ := A2.shape
        refine sy_call 0 (by kernel_rfl) ec5 ?_
        refine ow_new 0 W (AObj.cells [Value.int IntKind.i64 (RT.b (trF f n d (m ||| 2 ^ i) v)), Value.bool (RT.w (trF f n d (m ||| 2 ^ i) v)), Value.slice a1 (List.length (RT.l (trF f n d (m ||| 2 ^ i) v))) c1, Value.int IntKind.i64 (RT.b (trF f n d (m ||| 2 ^ i) (v ||| 2 ^ i))), Value.bool (RT.w (trF f n d (m ||| 2 ^ i) (v ||| 2 ^ i))), Value.slice a2 (List.length (RT.l (trF f n d (m ||| 2 ^ i) (v ||| 2 ^ i)))) c2] 39 false) (fun q => Value.slice (some { block := q, off := 0 }) 2 4) (by kernel_rfl) fun q11 nq11 Wq11 => ?_
        have W := Wq11
        refine ow_storeA (P := Tryz.prog) (T := 39) (v := Value.agg { toList := [Value.int IntKind.i64 (Int.ofNat i), Value.bool false, Value.slice (some { block := Hp.next q10, off := 0 }) 2 4] }) 1 7 W ([Value.int IntKind.i64 (Int.ofNat i), Value.bool false, Value.slice (some { block := Hp.next q10, off := 0 }) 2 4]) rfl rfl rfl (by kernel_rfl) (by first | rfl | (repeat' (first | exact rfl | assumption | apply sc_cons))) (by kernel_rfl) fun q12 nq12 Wq12 => ?_
        have W := Wq12
        refine sy_need 0 [] [⟨(loadT Tryz.prog q9 3 (ptr (Hp.next g3) (0))).map (·, q9), Value.int IntKind.i64 (Int.ofNat i), q9⟩, ⟨(loadT Tryz.prog q10 3 (ptr (Hp.next g3) (0))).map (·, q10), Value.int IntKind.i64 (Int.ofNat i), q10⟩, ⟨(loadT Tryz.prog q8 105 (ptr (bG) (0))).map (·, q8), Value.func (Fn.func 66) { toList := [] } { toList := [Value.pointer (some { block := bD, off := 0 }), Value.pointer (some { block := bG, off := 0 })] }, q8⟩, ⟨(loadT Tryz.prog q8 76 (ptr (Hp.next q4) (0))).map (·, q8), Value.agg { toList := [Value.int IntKind.i64 (Int.ofNat (m ||| 2 ^ i)), Value.int IntKind.i64 (Int.ofNat (v ||| 2 ^ i))] }, q8⟩] (by kernel_rfl) ⟨ob_load (P := Tryz.prog) (T := 3) (k := 5) Wq9 rfl rfl (by kernel_rfl), ob_load (P := Tryz.prog) (T := 3) (k := 5) Wq10 rfl rfl (by kernel_rfl), ob_load (P := Tryz.prog) (T := 105) (k := 11) Wq8 rfl rfl (by kernel_rfl), ob_loadA (P := Tryz.prog) (T := 76) (k := 0) (z := 2) Wq8 rfl (by kernel_rfl) (by kernel_rfl) rfl, trivial⟩ ?_
        refine ow_leave 0 3 (Ex.ret) W rfl (by kernel_rfl) (by simp) fun q15 nq15 Wq15 => ?_
        have W := Wq15
        let nd : Nat × AObj := (q10.next, .cells [I (trF f n d (m ||| 2 ^ i) v).b, .bool (trF f n d (m ||| 2 ^ i) v).w, .slice a1 (trF f n d (m ||| 2 ^ i) v).l.length c1, I (trF f n d (m ||| 2 ^ i) (v ||| 2 ^ i)).b, .bool (trF f n d (m ||| 2 ^ i) (v ||| 2 ^ i)).w, .slice a2 (trF f n d (m ||| 2 ^ i) (v ||| 2 ^ i)).l.length c2] 39 false)
        have W : Sto hb q15 (nd :: ([(q4.next, .cells [J (m ||| 2 ^ i), J (v ||| 2 ^ i)] 76 false), (q3.next, .cells [J (m ||| 2 ^ i), J v] 76 false), (g6.next + 1, CC.obj F1 g6.next .done (some .ret)), (g6.next, .defd false), (g5.next, .cells [SL] 22 false), (g3.next, .cells [J i] 3 false), (g1.next, .cells [J i, .bool false, .slice (some ⟨q10.next, 0, none⟩) 2 4] 39 false), (h.next, .cells [J m, J v] 76 false)] ++ (fxL (2 ^ n) b0 c bd mid bD bG es5 cl5 ++ (L2 ++ (L1 ++ l))))) := W
        have W := (W.perm perm_in).drop 2
        refine sy_done 0 (v := .bool false) (h := q15) (by kernel_rfl) (.inr ⟨rfl, es5, cl5, nd :: (L2 ++ L1), i, J i, .bool false, .slice (some ⟨q10.next, 0, none⟩) 2 4, ok5, hi, hc, hno, ?_, ?_⟩)
        · rw [List.cons_append, List.append_assoc]; exact W
        · refine ⟨some ⟨q10.next, 0, none⟩, 4, rfl, fun _ => ⟨q10.next, 0, nd.2, _, rfl, List.mem_cons_self .., rfl, ⟨_, _, _, _, rfl, A1.mono fun p hp => ?_, ⟨_, _, _, _, rfl, A2.mono fun p hp => ?_, rfl⟩⟩⟩⟩
          · exact List.mem_cons_of_mem _ (List.mem_append_right _ hp)
          · exact List.mem_cons_of_mem _ (List.mem_append_left _ hp)
      obtain ⟨w, g', e, ⟨rfl, hI⟩ | ⟨rfl, hO⟩⟩ := key
      · exact .inl ⟨g', e, hI⟩
      · exact .inr ⟨g', e, hO⟩
    obtain ⟨w, h3, ev, hI | hO⟩ := single_run n (by omega) 100000 (F + 1) g5.next (g6.next + 1) (by decide) (some ⟨b0, 0, none⟩) c Inv Out hbx hy (h := HH) ⟨es, cl, ok, fun j hj => absurd hj (Nat.not_lt_zero j), W⟩
    · obtain ⟨es3, cl3, ok3, hno, W⟩ := hI
      refine ⟨w, h3, .ready, none, g6.next, .normal, _, ev, W, by decide, rfl, fun H' nH' W => ?_⟩
      refine ow_storeA (P := Tryz.prog) (T := 39) (v := Value.agg { toList := [Value.int IntKind.i64 (Int.ofNat 0), Value.bool false, Value.slice none 0 0] }) 1 3 W ([Value.int IntKind.i64 (Int.ofNat 0), Value.bool false, Value.slice none 0 0]) rfl rfl rfl (by kernel_rfl) (by first | rfl | (repeat' (first | exact rfl | assumption | apply sc_cons))) (by kernel_rfl) fun r1 nr1 Wr1 => ?_
      have W := Wr1
      refine ow_marks 0 [g6.next] (l' := [(g5.next, .cells [SL] 22 false), (g3.next, .cells [J n] 3 false), (g1.next, .cells [I 0, .bool false, .slice none 0 0] 39 false), (h.next, .cells [J m, J v] 76 false)] ++ (fxL (2 ^ n) b0 c bd mid bD bG es3 cl3 ++ l)) W (by kernel_rfl) fun r2 nr2 W => ?_
      refine ow_loadA (P := Tryz.prog) (T := 39) (z := 3) 0 2 W rfl (by kernel_rfl) (by kernel_rfl) rfl (by kernel_rfl) ?_
      refine sy_done 0 (v := .agg #[I 0, .bool false, .slice none 0 0]) (h := r2) (by kernel_rfl) ⟨es3, cl3, [], ok3, W.drop 4, ?_⟩
      rw [trF, if_neg (by rw [ha]; decide), find_none hno]
      exact ⟨none, 0, rfl, fun hn => absurd rfl hn⟩
    · obtain ⟨es3, cl3, L, i, x, y, z, ok3, hi, hc, hno, W, A3⟩ := hO
      refine ⟨w, h3, .done, some .ret, g6.next, .ret, _, ev, W, by decide, rfl, fun H' nH' W => ?_⟩
      refine ow_marks 0 [g6.next] (l' := [(g5.next, .cells [SL] 22 false), (g3.next, .cells [J i] 3 false), (g1.next, .cells [x, y, z] 39 false), (h.next, .cells [J m, J v] 76 false)] ++ (fxL (2 ^ n) b0 c bd mid bD bG es3 cl3 ++ (L ++ l))) W (by kernel_rfl) fun r2 nr2 W => ?_
      refine ow_loadA (P := Tryz.prog) (T := 39) (z := 3) 0 2 W rfl (by kernel_rfl) (by kernel_rfl) rfl (by kernel_rfl) ?_
      refine sy_done 0 (v := .agg #[x, y, z]) (h := r2) (by kernel_rfl) ⟨es3, cl3, L, ok3, W.drop 4, ?_⟩
      rw [trF, if_neg (by rw [ha]; decide), find_someD hi hc hno]
      exact A3
  obtain ⟨y, h', e, es', cl', L, ok', W', A'⟩ := main
  exact ⟨y, h', es', cl', L, e, ok', W', A'⟩
/-- The bits below n that a mask does not have. -/
def zrs (n m : Nat) : List Nat := (List.range n).filter fun i => m &&& 2 ^ i == 0
theorem zrs_erase : ∀ n, n < 6 → ∀ m, m < 2 ^ n → ∀ b, b < (zrs n m).length → zrs n (m ||| 2 ^ (zrs n m).getD b 0) = (zrs n m).eraseIdx b := by
  have h : (List.range 6).all (fun n => (List.range (2 ^ n)).all fun m => (List.range (zrs n m).length).all fun b => decide (zrs n (m ||| 2 ^ (zrs n m).getD b 0) = (zrs n m).eraseIdx b)) = true := by kernel_rfl
  intro n hn m hm b hb
  rw [List.all_eq_true] at h
  have h := h n (List.mem_range.2 hn)
  rw [List.all_eq_true] at h
  have h := h m (List.mem_range.2 hm)
  rw [List.all_eq_true] at h
  exact of_decide_eq_true (h b (List.mem_range.2 hb))
theorem zrs_less {n m i : Nat} (hn : n ≤ 5) (hm : m < 2 ^ n) (hi : i < n) (hz : m &&& 2 ^ i = 0) : (zrs n (m ||| 2 ^ i)).length + 1 = (zrs n m).length := by
  have hmem : i ∈ zrs n m := List.mem_filter.2 ⟨List.mem_range.2 hi, by rw [hz]; rfl⟩
  obtain ⟨b, hb, e⟩ := List.getElem_of_mem hmem
  have h := zrs_erase n (by omega) m hm b hb
  rw [show (zrs n m).getD b 0 = i by rw [List.getD_eq_getElem?_getD, List.getElem?_eq_getElem hb, e]; rfl] at h
  rw [h, List.length_eraseIdx_of_lt hb]
  omega
theorem grow_all (f : Nat → Bool) (n : Nat) (hn : n ≤ 5) (hb : Hp) (b0 c bd mid bD bG : Nat) (A : ArB b0 (2 ^ n) f hb) (k : Nat) : ∀ d m v, m < 2 ^ n → v < 2 ^ n → (zrs n m).length ≤ d → Grow f n 100000 (3 * d + k + 103) hb b0 c bd mid bD bG (d + 1) m v
  | d, m, v, hm, hv, hz => by
    have hp32 : 2 ^ n ≤ 32 := Nat.pow_le_pow_right (n := 2) (by decide) hn
    have hi2 : ∀ i, i < n → 2 ^ i < 2 ^ n := fun i hi => Nat.pow_lt_pow_right (by decide) hi
    rw [show 3 * d + k + 103 = (3 * d + k + 100) + 3 by omega]
    refine grow_step f n hn (3 * d + k + 100) hb b0 c bd mid bD bG d m v hm hv A (fun h A D => const_of f (2 ^ n) (by omega) 100000 (3 * d + k + 101) (by decide) b0 c bd m v hv (by omega) h A D)
      (fun i s h hi => with_of 100000 (3 * d + k + 99) m v (2 ^ i) s (by omega) (by omega) (by have := hi2 i hi; omega) h) (fun m v hm hv => ?_) fun i w hi hz' hw => ?_
    · have e := least_all f n hn 100000 bd b0 c mid (by decide) 32 (3 * d + k + 3) m v hm hv (by omega)
      rwa [show 3 * 32 + (3 * d + k + 3) + 1 = 3 * d + k + 100 by omega] at e
    · have h1 := zrs_less hn hm hi hz'
      have h2 : m ||| 2 ^ i < 2 ^ n := or_small hm (hi2 i hi)
      have h3 : w < 2 ^ n := by
        rcases hw with rfl | rfl
        · exact hv
        · exact or_small hv (hi2 i hi)
      cases d with
      | zero => omega
      | succ d =>
        have e := grow_all f n hn hb b0 c bd mid bD bG A k d (m ||| 2 ^ i) w h2 h3 (by omega)
        rwa [show 3 * (d + 1) + k + 100 = 3 * d + k + 103 by omega]
theorem perm5 {α : Type} {a b c d e : α} : [a, b, c, d, e].Perm [e, d, c, a, b] := by
  have h1 : ([a, b] ++ [c, d, e]).Perm ([c, d, e] ++ [a, b]) := List.perm_append_comm
  exact h1.trans (show ([c, d, e] ++ [a, b]).Perm ([e, d, c] ++ [a, b]) from List.Perm.append_right [a, b] (List.reverse_perm [c, d, e]).symm)
theorem tree_of (f : Nat → Bool) (n F : Nat) (hb h : Hp) (b0 c bd mid d : Nat)
    (l : List (Nat × AObj)) (gr : ∀ bD bG, Grow f n 100000 F hb b0 c bd mid bD bG d 0 0) (W : Sto hb h ([(bd, .cells [.slice (some ⟨b0, 0, none⟩) (2 ^ n) c, .map (some mid)] 73 false), (mid, .map [] 0)] ++ l)) :
    ∃ y h' L, Ev 100000 (F + 1) 43 [ptr bd 0] h = some (y, h') ∧ Sto hb h' (L ++ l) ∧ At L d y (trF f n d 0 0) := by
  have main : ∃ y h', Ev 100000 (F + 1) 43 [ptr bd 0] h = some (y, h') ∧ ∃ L, Sto hb h' (L ++ l) ∧ At L d y (trF f n d 0 0) := by
    refine fnS_ok (Q := fun y h' => ∃ L, Sto hb h' (L ++ l) ∧ At L d y (trF f n d 0 0)) ?_
    refine ow_new 0 W (AObj.cells [Value.pointer (some { block := bd, off := 0 })] 70 false) (fun q => Value.pointer (some { block := q, off := 0 })) (by kernel_rfl) fun g1 ng1 Wg1 => ?_
    have W := Wg1
    refine ow_new 0 W (AObj.cells [Value.int IntKind.i64 (Int.ofNat 0), Value.bool false, Value.slice none 0 0] 39 false) (fun q => Value.pointer (some { block := q, off := 0 })) (by kernel_rfl) fun g2 ng2 Wg2 => ?_
    have W := Wg2
    refine ow_new 0 W (AObj.cells [Value.nilFunc] 105 false) (fun q => Value.pointer (some { block := q, off := 0 })) (by kernel_rfl) fun g3 ng3 Wg3 => ?_
    have W := Wg3
    refine ow_store (P := Tryz.prog) (T := 105) (off := 0) (v := Value.func (Fn.func 66) { toList := [] } { toList := [Value.pointer (some { block := Hp.next h, off := 0 }), Value.pointer (some { block := Hp.next g2, off := 0 })] }) 1 0 W rfl (Nat.le_of_ble_eq_true (by kernel_rfl)) (by kernel_rfl) (by first | rfl | assumption) (by kernel_rfl) fun g4 ng4 Wg4 => ?_
    have W := Wg4
    refine ow_load (P := Tryz.prog) (T := 105) (off := 0) 0 0 W rfl rfl (by kernel_rfl) (by kernel_rfl) ?_
    refine ok_go 1 ?_
    have W : Sto hb g4 ([(g2.next, .cells [.func (.func 66) #[] #[ptr h.next 0, ptr g2.next 0]] 105 false), (g1.next, .cells [I 0, .bool false, .slice none 0 0] 39 false), (h.next, .cells [ptr bd 0] 70 false), (bd, .cells [.slice (some ⟨b0, 0, none⟩) (2 ^ n) c, .map (some mid)] 73 false), (mid, .map [] 0)] ++ l) := W
    have W : Sto hb g4 (fxL (2 ^ n) b0 c bd mid h.next g2.next [] 0 ++ ([(g1.next, .cells [I 0, .bool false, .slice none 0 0] 39 false)] ++ l)) := W.perm (List.Perm.append_right l perm5)
    obtain ⟨y, g5, es, cl, L, ec, _, W', A⟩ := gr h.next g2.next g4 [] 0 _ (fun e he => by cases he) W
    have W : Sto hb g5 ([(g1.next, .cells [I 0, .bool false, .slice none 0 0] 39 false)] ++ (fxL (2 ^ n) b0 c bd mid h.next g2.next es cl ++ (L ++ l))) := W'.perm perm_dn
    obtain ⟨a1, c1, rfl⟩ := A.shape
    refine sy_call 0 (by kernel_rfl) ec ?_
    refine ow_storeA (P := Tryz.prog) (T := 39) (v := Value.agg { toList := [Value.int IntKind.i64 (RT.b (trF f n d 0 0)), Value.bool (RT.w (trF f n d 0 0)), Value.slice a1 (List.length (RT.l (trF f n d 0 0))) c1] }) 0 0 W ([Value.int IntKind.i64 (RT.b (trF f n d 0 0)), Value.bool (RT.w (trF f n d 0 0)), Value.slice a1 (List.length (RT.l (trF f n d 0 0))) c1]) rfl rfl rfl (by kernel_rfl) (by first | rfl | (repeat' (first | exact rfl | assumption | apply sc_cons))) (by kernel_rfl) fun g6 ng6 Wg6 => ?_
    have W := Wg6
    refine ow_loadA (P := Tryz.prog) (T := 39) (z := 3) 0 0 W rfl (by kernel_rfl) (by kernel_rfl) rfl (by kernel_rfl) ?_
    exact sy_done 0 (v := .agg #[I (trF f n d 0 0).b, .bool (trF f n d 0 0).w, .slice a1 (trF f n d 0 0).l.length c1]) (h := g6) (by kernel_rfl) ⟨L, W.drop 5, A⟩
  obtain ⟨y, h', e, L, W, A⟩ := main
  exact ⟨y, h', L, e, W, A⟩
theorem decide_of (f : Nat → Bool) (n F : Nat) (h : Hp) (b0 c d : Nat)
    (fe : ∀ h, Ev 100000 (F + 1) 41 [.slice (some ⟨b0, 0, none⟩) (2 ^ n) c, J 5] h = some (J 0, h)) (gr : ∀ bd mid bD bG, Grow f n 100000 F h b0 c bd mid bD bG d 0 0) :
    ∃ y h' L, Ev 100000 (F + 2) 15 [.slice (some ⟨b0, 0, none⟩) (2 ^ n) c] h = some (.tuple #[y, J 0], h') ∧ Sto h h' L ∧ At L d y (trF f n d 0 0) := by
  have main : ∃ z h', Ev 100000 (F + 2) 15 [.slice (some ⟨b0, 0, none⟩) (2 ^ n) c] h = some (z, h') ∧ ∃ y L, z = .tuple #[y, J 0] ∧ Sto h h' L ∧ At L d y (trF f n d 0 0) := by
    refine fnS_ok (Q := fun z h' => ∃ y L, z = .tuple #[y, J 0] ∧ Sto h h' L ∧ At L d y (trF f n d 0 0)) ?_
    have W := Sto.start h
    refine ow_new 0 W (AObj.cells [Value.int IntKind.i64 (Int.ofNat 0), Value.bool false, Value.slice none 0 0] 39 false) (fun q => Value.pointer (some { block := q, off := 0 })) (by kernel_rfl) fun g1 ng1 Wg1 => ?_
    have W := Wg1
    refine sy_call 0 (by kernel_rfl) (fe g1) ?_
    refine ow_new 2 W (AObj.map [] 0) (fun q => Value.map (some q)) (by kernel_rfl) fun g2 ng2 Wg2 => ?_
    have W := Wg2
    refine ow_new 1 W (AObj.cells [Value.slice (some { block := b0, off := 0 }) (2 ^ n) c, Value.map (some (Hp.next g1))] 73 false) (fun q => Value.pointer (some { block := q, off := 0 })) (by kernel_rfl) fun g3 ng3 Wg3 => ?_
    have W := Wg3
    obtain ⟨y, g4, L, ec, W', A⟩ := tree_of f n F h g3 b0 c g2.next g1.next d [(h.next, .cells [I 0, .bool false, .slice none 0 0] 39 false)] (gr g2.next g1.next) W
    have W : Sto h g4 ((h.next, .cells [I 0, .bool false, .slice none 0 0] 39 false) :: L) := W'.perm List.perm_append_comm
    obtain ⟨a1, c1, rfl⟩ := A.shape
    refine sy_call 0 (by kernel_rfl) ec ?_
    refine ow_storeA (P := Tryz.prog) (T := 39) (v := Value.agg { toList := [Value.int IntKind.i64 (RT.b (trF f n d 0 0)), Value.bool (RT.w (trF f n d 0 0)), Value.slice a1 (List.length (RT.l (trF f n d 0 0))) c1] }) 0 0 W ([Value.int IntKind.i64 (RT.b (trF f n d 0 0)), Value.bool (RT.w (trF f n d 0 0)), Value.slice a1 (List.length (RT.l (trF f n d 0 0))) c1]) rfl rfl rfl (by kernel_rfl) (by first | rfl | (repeat' (first | exact rfl | assumption | apply sc_cons))) (by kernel_rfl) fun g5 ng5 Wg5 => ?_
    have W := Wg5
    refine ow_loadA (P := Tryz.prog) (T := 39) (z := 3) 0 0 W rfl (by kernel_rfl) (by kernel_rfl) rfl (by kernel_rfl) ?_
    exact sy_done 0 (v := .tuple #[.agg #[I (trF f n d 0 0).b, .bool (trF f n d 0 0).w, .slice a1 (trF f n d 0 0).l.length c1], J 0]) (h := g5) (by kernel_rfl) ⟨_, L, rfl, W.drop 1, A⟩
  obtain ⟨z, h', e, y, L, rfl, W, A⟩ := main
  exact ⟨y, h', L, e, W, A⟩
theorem ArB.of {b N : Nat} {f : Nat → Bool} {h g : Hp} {l : List (Nat × AObj)} {o : Bool} (W : Sto h g l) (k : Nat) (hk : l[k]? = some (b, .cells (cellsF N fun x => Value.bool (f x)) 4 o)) : ArB b N f g := ⟨W.lt k hk, o, W.get k hk⟩
end Go.Proofs.YtnfboopfpkaeaaaGreatDoor
