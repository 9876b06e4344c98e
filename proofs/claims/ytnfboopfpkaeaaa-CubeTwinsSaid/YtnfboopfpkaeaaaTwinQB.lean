/- Twins have one first twin, and the same numbers. -/
import Derived.Test.YtnfboopfpkaeaaaProg
import Derived.KernelRfl
import Derived.Test.YtnfboopfpkaeaaaSyE
import Derived.Test.YtnfboopfpkaeaaaTwinQA
import Derived.Test.YtnfboopfpkaeaaaHuangQB
/- TwinP: contracts of functions. -/
namespace Go.Proofs.Ytnfboopfpkaeaaa
open Go Go.Eng Nim
set_option maxRecDepth 100000
/-! The order of tables. -/

theorem lxc_flip (a b : Nat → Bool) : ∀ d i, lxc a b d i = -lxc b a d i
  | 0, _ => rfl
  | d + 1, i => by
    rw [lxc, lxc, lxc_flip a b d (i + 1)]
    cases a i <;> cases b i <;> simp
theorem lxc_trans (a b c : Nat → Bool) : ∀ d i, lxc a b d i ≤ 0 → lxc b c d i ≤ 0 → lxc a c d i ≤ 0
  | 0, _ => fun _ _ => Int.le_refl _
  | d + 1, i => by
    rw [lxc, lxc, lxc]
    have ih := lxc_trans a b c d (i + 1)
    cases a i <;> cases b i <;> cases c i <;> simp <;> exact ih
theorem lxc_anti (a b : Nat → Bool) : ∀ d i, lxc a b d i ≤ 0 → lxc b a d i ≤ 0 → ∀ x, i ≤ x → x < i + d → a x = b x
  | 0, i => fun _ _ x h1 h2 => by omega
  | d + 1, i => by
    rw [lxc, lxc]
    have ih := lxc_anti a b d (i + 1)
    intro h1 h2 x hx hx2
    have hab : a i = b i ∧ lxc a b d (i + 1) ≤ 0 ∧ lxc b a d (i + 1) ≤ 0 := by
      revert h1 h2
      cases a i <;> cases b i <;> simp <;> exact fun h1 h2 => ⟨h1, h2⟩
    by_cases hxi : x = i
    · rw [hxi]; exact hab.1
    · exact ih hab.2.1 hab.2.2 x (by omega) (by omega)
theorem lxc_congr {a b a' b' : Nat → Bool} : ∀ d i, (∀ x, i ≤ x → x < i + d → a x = a' x ∧ b x = b' x) → lxc a b d i = lxc a' b' d i
  | 0, _, _ => rfl
  | d + 1, i, h => by
    rw [lxc, lxc, lxc_congr d (i + 1) fun x h1 h2 => h x (by omega) (by omega), (h i (Nat.le_refl _) (by omega)).1, (h i (Nat.le_refl _) (by omega)).2]
theorem upd2_le (N : Nat) (w u : Nat → Bool) : lxc (upd2 N w u) w N 0 ≤ 0 ∧ lxc (upd2 N w u) u N 0 ≤ 0 ∧ (upd2 N w u = w ∨ upd2 N w u = u) := by
  have self : ∀ v, lxc v v N 0 ≤ 0 := fun v => by have := lxc_flip v v N 0; omega
  unfold upd2
  split
  · rename_i h
    exact ⟨by omega, self u, .inr rfl⟩
  · rename_i h
    have := lxc_flip w u N 0
    exact ⟨self w, by omega, .inl rfl⟩
/-- What the search has come to. -/
structure Bst (f : Nat → Bool) (N : Nat) (S : List Nat → Nat → Bool → Prop) (r : Nat → Bool) : Prop where
  le : ∀ p m o, S p m o → lxc r (tw f p m o) N 0 ≤ 0
  own : lxc r f N 0 ≤ 0
  src : r = f ∨ ∃ p m o, S p m o ∧ r = tw f p m o
theorem Bst.step {f : Nat → Bool} {N : Nat} {S S' : List Nat → Nat → Bool → Prop} {w : Nat → Bool} {p : List Nat} {m : Nat} {o : Bool} (H : Bst f N S w) (h1 : ∀ q k b, S' q k b → S q k b ∨ (q = p ∧ k = m ∧ b = o)) (h2 : ∀ q k b, S q k b → S' q k b) (h3 : S' p m o) : Bst f N S' (upd2 N w (tw f p m o)) := by
  obtain ⟨u1, u2, u3⟩ := upd2_le N w (tw f p m o)
  refine ⟨fun q k b hq => ?_, lxc_trans _ _ _ N 0 u1 H.own, ?_⟩
  · rcases h1 q k b hq with h | ⟨rfl, rfl, rfl⟩
    · exact lxc_trans _ _ _ N 0 u1 (H.le q k b h)
    · exact u2
  · rcases u3 with e | e
    · rw [e]
      rcases H.src with h | ⟨q, k, b, h, e⟩
      · exact .inl h
      · exact .inr ⟨q, k, b, h2 q k b h, e⟩
    · exact .inr ⟨p, m, o, h3, e⟩
theorem rd_bst (f : Nat → Bool) (N : Nat) (p : List Nat) (S : List Nat → Nat → Bool → Prop) (w : Nat → Bool) (H : Bst f N S w) : ∀ m, Bst f N (fun q k b => S q k b ∨ (q = p ∧ k < m)) (rd f N p m w)
  | 0 => ⟨fun q k b h => (h.elim (H.le q k b) fun h => absurd h.2 (Nat.not_lt_zero _)), H.own, H.src.elim .inl fun ⟨q, k, b, h, e⟩ => .inr ⟨q, k, b, .inl h, e⟩⟩
  | m + 1 => by
    have ih := rd_bst f N p S w H m
    have s1 : Bst f N (fun q k b => (S q k b ∨ (q = p ∧ k < m)) ∨ (q = p ∧ k = m ∧ b = false)) (upd2 N (rd f N p m w) (tw f p m false)) := ih.step (fun q k b h => h) (fun q k b h => .inl h) (.inr ⟨rfl, rfl, rfl⟩)
    exact s1.step (p := p) (m := m) (o := true) (fun q k b h => by
      rcases h with h | ⟨h1, h2⟩
      · exact .inl (.inl (.inl h))
      · by_cases hkm : k = m
        · cases b
          · exact .inl (.inr ⟨h1, hkm, rfl⟩)
          · exact .inr ⟨h1, hkm, rfl⟩
        · exact .inl (.inl (.inr ⟨h1, by omega⟩))) (fun q k b h => by
      rcases h with (h | ⟨h1, h2⟩) | ⟨h1, h2, h3⟩
      · exact .inl h
      · exact .inr ⟨h1, by omega⟩
      · exact .inr ⟨h1, by omega⟩) (.inr ⟨rfl, Nat.lt_succ_self _⟩)
theorem best_bst (f : Nat → Bool) (N : Nat) : ∀ (ps : List (List Nat)) (S : List Nat → Nat → Bool → Prop) (w : Nat → Bool), Bst f N S w → Bst f N (fun q k b => S q k b ∨ (q ∈ ps ∧ k < N)) (ps.foldl (fun w p => rd f N p N w) w)
  | [], S, w, H => ⟨fun q k b h => h.elim (H.le q k b) fun h => absurd h.1 List.not_mem_nil, H.own, H.src.elim .inl fun ⟨q, k, b, h, e⟩ => .inr ⟨q, k, b, .inl h, e⟩⟩
  | p :: ps, S, w, H => by
    have ih := best_bst f N ps _ _ (rd_bst f N p S w H N)
    refine ⟨fun q k b h => ih.le q k b ?_, ih.own, ih.src.elim .inl fun ⟨q, k, b, h, e⟩ => .inr ⟨q, k, b, ?_, e⟩⟩
    · rcases h with h | ⟨h1, h2⟩
      · exact .inl (.inl h)
      · rcases List.mem_cons.1 h1 with h1 | h1
        · exact .inl (.inr ⟨h1, h2⟩)
        · exact .inr ⟨h1, h2⟩
    · rcases h with (h | ⟨h1, h2⟩) | ⟨h1, h2⟩
      · exact .inl h
      · exact .inr ⟨by rw [h1]; exact List.mem_cons_self .., h2⟩
      · exact .inr ⟨List.mem_cons_of_mem _ h1, h2⟩
theorem twF_bst (f : Nat → Bool) (n : Nat) : Bst f (2 ^ n) (fun q k _ => q ∈ pf n n [] ∧ k < 2 ^ n) (twF f n) := by
  have self : ∀ v, lxc v v (2 ^ n) 0 ≤ 0 := fun v => by have := lxc_flip v v (2 ^ n) 0; omega
  have h := best_bst f (2 ^ n) (pf n n []) (fun _ _ _ => False) f ⟨fun _ _ _ h => absurd h id, self f, .inl rfl⟩
  exact ⟨fun q k b hq => h.le q k b (.inr hq), h.own, h.src.elim .inl fun ⟨q, k, b, hq, e⟩ => .inr ⟨q, k, b, hq.resolve_left id, e⟩⟩
/-! The permutations of up to four bits, looked at one by one. -/

def PL (n : Nat) : List (List Nat) := pf n n []
def chkA (n : Nat) (p : List Nat) : Bool := Nat.beq p.length n && (List.range n).all (fun i => Nat.blt (p.getD i 0) n && Nat.beq (yb p (2 ^ i) n) (2 ^ p.getD i 0)) && (List.range (2 ^ n)).all fun a =>
  Nat.blt (yb p a n) (2 ^ n) && Nat.beq (pop (yb p a n)) (pop a) && ((List.range (2 ^ n)).any fun b => Nat.beq (yb p b n) a) && (List.range (2 ^ n)).all fun b => Nat.beq (yb p (a ^^^ b) n) (yb p a n ^^^ yb p b n) && Nat.beq (yb p (a &&& b) n) (yb p a n &&& yb p b n)
def chkB (n : Nat) (p : List Nat) : Bool := (PL n).all fun q => (PL n).contains (q.map fun k => p.getD k 0) && (List.range (2 ^ n)).all fun z => Nat.beq (yb p (yb q z n) n) (yb (q.map fun k => p.getD k 0) z n)
def chkC (n : Nat) (p : List Nat) : Bool := (PL n).any fun q => (List.range (2 ^ n)).all fun z => Nat.beq (yb p (yb q z n) n) z && Nat.beq (yb q (yb p z n) n) z
def chk (n : Nat) : Bool := (PL n).all fun p => chkA n p && chkB n p && chkC n p
theorem chk_all : chk 0 = true ∧ chk 1 = true ∧ chk 2 = true ∧ chk 3 = true ∧ chk 4 = true := ⟨by kernel_rfl, by kernel_rfl, by kernel_rfl, by kernel_rfl, by kernel_rfl⟩
theorem chk_ok (n : Nat) (hn : n ≤ 4) : chk n = true := by
  obtain ⟨h0, h1, h2, h3, h4⟩ := chk_all
  rcases (by omega : n = 0 ∨ n = 1 ∨ n = 2 ∨ n = 3 ∨ n = 4) with rfl | rfl | rfl | rfl | rfl <;> assumption
theorem rp_PL : ((rp 0).all fun p => (PL 0).contains p) = true ∧ ((rp 1).all fun p => (PL 1).contains p) = true ∧ ((rp 2).all fun p => (PL 2).contains p) = true ∧ ((rp 3).all fun p => (PL 3).contains p) = true ∧ ((rp 4).all fun p => (PL 4).contains p) = true :=
  ⟨by kernel_rfl, by kernel_rfl, by kernel_rfl, by kernel_rfl, by kernel_rfl⟩
theorem rp_in (n : Nat) (hn : n ≤ 4) {p : List Nat} (hp : p ∈ rp n) : p ∈ PL n := by
  obtain ⟨h0, h1, h2, h3, h4⟩ := rp_PL
  rcases (by omega : n = 0 ∨ n = 1 ∨ n = 2 ∨ n = 3 ∨ n = 4) with rfl | rfl | rfl | rfl | rfl
  · exact List.contains_iff_mem.1 (List.all_eq_true.1 h0 p hp)
  · exact List.contains_iff_mem.1 (List.all_eq_true.1 h1 p hp)
  · exact List.contains_iff_mem.1 (List.all_eq_true.1 h2 p hp)
  · exact List.contains_iff_mem.1 (List.all_eq_true.1 h3 p hp)
  · exact List.contains_iff_mem.1 (List.all_eq_true.1 h4 p hp)
end Go.Proofs.Ytnfboopfpkaeaaa
/- TwinQ: contracts of functions. -/
namespace Go.Proofs.Ytnfboopfpkaeaaa
open Go Go.Eng Nim
set_option maxRecDepth 100000
theorem all_range {n : Nat} {p : Nat → Bool} (h : (List.range n).all p = true) {x : Nat} (hx : x < n) : p x = true := List.all_eq_true.1 h x (List.mem_range.2 hx)
/-- What a permutation does with masks. -/
structure Pm (n : Nat) (p : List Nat) : Prop where
  len : p.length = n
  plt : ∀ i, i < n → p.getD i 0 < n
  one : ∀ i, i < n → yb p (2 ^ i) n = 2 ^ p.getD i 0
  lt : ∀ a, a < 2 ^ n → yb p a n < 2 ^ n
  pop : ∀ a, a < 2 ^ n → pop (yb p a n) = pop a
  sur : ∀ a, a < 2 ^ n → ∃ b, b < 2 ^ n ∧ yb p b n = a
  xor : ∀ a b, a < 2 ^ n → b < 2 ^ n → yb p (a ^^^ b) n = yb p a n ^^^ yb p b n
  and : ∀ a b, a < 2 ^ n → b < 2 ^ n → yb p (a &&& b) n = yb p a n &&& yb p b n
theorem pm_of {n : Nat} (hn : n ≤ 4) {p : List Nat} (hp : p ∈ PL n) : Pm n p := by
  have h := List.all_eq_true.1 (chk_ok n hn) p hp
  rw [Bool.and_eq_true, Bool.and_eq_true] at h
  have h := h.1.1
  unfold chkA at h
  rw [Bool.and_eq_true, Bool.and_eq_true] at h
  obtain ⟨⟨h1, h2⟩, h3⟩ := h
  have g2 : ∀ i, i < n → p.getD i 0 < n ∧ yb p (2 ^ i) n = 2 ^ p.getD i 0 := fun i hi => by
    have e := all_range h2 hi
    rw [Bool.and_eq_true, Nat.blt_eq] at e
    exact ⟨e.1, Nat.eq_of_beq_eq_true e.2⟩
  have g3 : ∀ a, a < 2 ^ n → (yb p a n < 2 ^ n ∧ pop (yb p a n) = pop a ∧ (∃ b, b < 2 ^ n ∧ yb p b n = a)) ∧ ∀ b, b < 2 ^ n → yb p (a ^^^ b) n = yb p a n ^^^ yb p b n ∧ yb p (a &&& b) n = yb p a n &&& yb p b n := fun a ha => by
    have e := all_range h3 ha
    rw [Bool.and_eq_true, Bool.and_eq_true, Bool.and_eq_true, Nat.blt_eq, List.any_eq_true] at e
    obtain ⟨⟨⟨e1, e2⟩, b, eb, e3⟩, e4⟩ := e
    refine ⟨⟨e1, Nat.eq_of_beq_eq_true e2, b, List.mem_range.1 eb, Nat.eq_of_beq_eq_true e3⟩, fun b hb => ?_⟩
    have e := all_range e4 hb
    rw [Bool.and_eq_true] at e
    exact ⟨Nat.eq_of_beq_eq_true e.1, Nat.eq_of_beq_eq_true e.2⟩
  exact ⟨Nat.eq_of_beq_eq_true h1, fun i hi => (g2 i hi).1, fun i hi => (g2 i hi).2, fun a ha => (g3 a ha).1.1, fun a ha => (g3 a ha).1.2.1, fun a ha => (g3 a ha).1.2.2, fun a b ha hb => ((g3 a ha).2 b hb).1, fun a b ha hb => ((g3 a ha).2 b hb).2⟩
theorem comp_in {n : Nat} (hn : n ≤ 4) {p q : List Nat} (hp : p ∈ PL n) (hq : q ∈ PL n) : ∃ r, r ∈ PL n ∧ ∀ z, z < 2 ^ n → yb p (yb q z n) n = yb r z n := by
  have h := List.all_eq_true.1 (chk_ok n hn) p hp
  rw [Bool.and_eq_true, Bool.and_eq_true] at h
  have h := List.all_eq_true.1 h.1.2 q hq
  rw [Bool.and_eq_true] at h
  exact ⟨_, List.contains_iff_mem.1 h.1, fun z hz => Nat.eq_of_beq_eq_true (all_range h.2 hz)⟩
theorem inv_in {n : Nat} (hn : n ≤ 4) {p : List Nat} (hp : p ∈ PL n) : ∃ q, q ∈ PL n ∧ ∀ z, z < 2 ^ n → yb p (yb q z n) n = z ∧ yb q (yb p z n) n = z := by
  have h := List.all_eq_true.1 (chk_ok n hn) p hp
  rw [Bool.and_eq_true] at h
  obtain ⟨q, hq, h⟩ := List.any_eq_true.1 h.2
  refine ⟨q, hq, fun z hz => ?_⟩
  have e := all_range h hz
  rw [Bool.and_eq_true] at e
  exact ⟨Nat.eq_of_beq_eq_true e.1, Nat.eq_of_beq_eq_true e.2⟩
/-! The functions that are twins. -/

def Orb (n : Nat) (f g : Nat → Bool) : Prop := ∃ p m o, p ∈ PL n ∧ m < 2 ^ n ∧ ∀ x, x < 2 ^ n → g x = tw f p m o x
theorem tw_len {n : Nat} (hn : n ≤ 4) {p : List Nat} (hp : p ∈ PL n) (f : Nat → Bool) (m : Nat) (o : Bool) (x : Nat) : tw f p m o x = (f (yb p (x ^^^ m) n) != o) := by
  unfold tw; rw [(pm_of hn hp).len]
theorem Orb.trans {n : Nat} (hn : n ≤ 4) {f g u : Nat → Bool} (h1 : Orb n f g) (h2 : Orb n g u) : Orb n f u := by
  obtain ⟨p, m, o, hp, hm, e1⟩ := h1
  obtain ⟨q, k, b, hq, hk, e2⟩ := h2
  have P := pm_of hn hp
  have Q := pm_of hn hq
  obtain ⟨r, hr, er⟩ := comp_in hn hp hq
  obtain ⟨m1, hm1, em1⟩ := Q.sur m hm
  have hkm : k ^^^ m1 < 2 ^ n := Nat.xor_lt_two_pow hk hm1
  refine ⟨r, k ^^^ m1, o != b, hr, hkm, fun x hx => ?_⟩
  have hxk : x ^^^ k < 2 ^ n := Nat.xor_lt_two_pow hx hk
  rw [e2 x hx, tw_len hn hq, e1 _ (Q.lt _ hxk), tw_len hn hp, tw_len hn hr, ← Nat.xor_assoc, ← er _ (Nat.xor_lt_two_pow hxk hm1), Q.xor _ _ hxk hm1, em1]
  cases f (yb p (yb q (x ^^^ k) n ^^^ m) n) <;> cases o <;> cases b <;> rfl
theorem Orb.symm {n : Nat} (hn : n ≤ 4) {f g : Nat → Bool} (h1 : Orb n f g) : Orb n g f := by
  obtain ⟨p, m, o, hp, hm, e1⟩ := h1
  have P := pm_of hn hp
  obtain ⟨q, hq, eq⟩ := inv_in hn hp
  have Q := pm_of hn hq
  obtain ⟨m1, hm1, em1⟩ := Q.sur m hm
  refine ⟨q, m1, o, hq, hm1, fun x hx => ?_⟩
  have hxm : x ^^^ m1 < 2 ^ n := Nat.xor_lt_two_pow hx hm1
  rw [tw_len hn hq, e1 _ (Q.lt _ hxm), tw_len hn hp, Q.xor _ _ hx hm1, em1, Nat.xor_assoc, Nat.xor_self, Nat.xor_zero, (eq x hx).1]
  cases f x <;> cases o <;> rfl
theorem Orb.congr {n : Nat} {f g u : Nat → Bool} (h1 : Orb n f g) (h : ∀ x, x < 2 ^ n → u x = g x) : Orb n f u := by
  obtain ⟨p, m, o, hp, hm, e1⟩ := h1
  exact ⟨p, m, o, hp, hm, fun x hx => (h x hx).trans (e1 x hx)⟩
theorem Orb.refl {n : Nat} (hn : n ≤ 4) (f : Nat → Bool) {p : List Nat} (hp : p ∈ PL n) : Orb n f f :=
  Orb.trans hn (g := tw f p 0 false) ⟨p, 0, false, hp, Nat.two_pow_pos n, fun _ _ => rfl⟩ (Orb.symm hn ⟨p, 0, false, hp, Nat.two_pow_pos n, fun _ _ => rfl⟩)
theorem twF_orb {n : Nat} (hn : n ≤ 4) (f : Nat → Bool) {p : List Nat} (hp : p ∈ PL n) : Orb n f (twF f n) := by
  rcases (twF_bst f n).src with e | ⟨q, k, b, ⟨hq, hk⟩, e⟩
  · rw [e]; exact Orb.refl hn f hp
  · rw [e]; exact ⟨q, k, b, hq, hk, fun _ _ => rfl⟩
theorem twF_least {n : Nat} (f : Nat → Bool) {u : Nat → Bool} (h : Orb n f u) : lxc (twF f n) u (2 ^ n) 0 ≤ 0 := by
  obtain ⟨p, m, o, hp, hm, e⟩ := h
  rw [lxc_congr (2 ^ n) 0 (a' := twF f n) (b' := tw f p m o) fun x _ hx => ⟨rfl, e x (by omega)⟩]
  exact (twF_bst f n).le p m o ⟨hp, hm⟩
theorem twF_same {n : Nat} (hn : n ≤ 4) {f g : Nat → Bool} {p : List Nat} (hp : p ∈ PL n) (h : Orb n f g) : ∀ x, x < 2 ^ n → twF f n x = twF g n x := by
  have h1 : lxc (twF f n) (twF g n) (2 ^ n) 0 ≤ 0 := twF_least f (h.trans hn (twF_orb hn g hp))
  have h2 : lxc (twF g n) (twF f n) (2 ^ n) 0 ≤ 0 := twF_least g ((h.symm hn).trans hn (twF_orb hn f hp))
  exact fun x hx => lxc_anti _ _ (2 ^ n) 0 h1 h2 x (Nat.zero_le _) (by omega)
/-! Twins have the same numbers. -/

/-- A function that is another one, turned. -/
structure Tw (n : Nat) (f g : Nat → Bool) (L φ π : Nat → Nat) (o : Bool) : Prop where
  flt : ∀ x, x < 2 ^ n → φ x < 2 ^ n
  llt : ∀ x, x < 2 ^ n → L x < 2 ^ n
  plt : ∀ i, i < n → π i < n
  one : ∀ i, i < n → L (2 ^ i) = 2 ^ π i
  pp : ∀ a, a < 2 ^ n → pop (L a) = pop a
  sur : ∀ a, a < 2 ^ n → ∃ b, b < 2 ^ n ∧ L b = a
  xor : ∀ a b, a < 2 ^ n → b < 2 ^ n → L (a ^^^ b) = L a ^^^ L b
  and : ∀ a b, a < 2 ^ n → b < 2 ^ n → L (a &&& b) = L a &&& L b
  shift : ∀ x k, x < 2 ^ n → k < 2 ^ n → φ (x ^^^ k) = φ x ^^^ L k
  val : ∀ x, x < 2 ^ n → g x = (f (φ x) != o)
theorem tw_of {n : Nat} (hn : n ≤ 4) {f g : Nat → Bool} (h : Orb n f g) : ∃ L φ π o, Tw n f g L φ π o := by
  obtain ⟨p, m, o, hp, hm, e⟩ := h
  have P := pm_of hn hp
  exact ⟨fun a => yb p a n, fun x => yb p (x ^^^ m) n, fun i => p.getD i 0, o, fun x hx => P.lt _ (Nat.xor_lt_two_pow hx hm), P.lt, P.plt, P.one, P.pop, P.sur, P.xor, P.and, fun x k hx hk => by
    show yb p (x ^^^ k ^^^ m) n = yb p (x ^^^ m) n ^^^ yb p k n
    rw [xx_comm, P.xor _ _ (Nat.xor_lt_two_pow hx hm) hk], fun x hx => (e x hx).trans (tw_len hn hp f m o x)⟩
theorem pop_zero_all : allB 64 (fun a => Nat.beq a 0 || Nat.blt 0 (pop a)) = true := by kernel_rfl
theorem pop_pos {a : Nat} (ha : a < 64) (h : a ≠ 0) : 0 < pop a := by
  have e := allB_ok pop_zero_all a ha
  rw [Bool.or_eq_true, Nat.blt_eq] at e
  exact e.resolve_left fun e => h (Nat.eq_of_beq_eq_true e)
namespace Tw
variable {n : Nat} {f g : Nat → Bool} {L φ π : Nat → Nat} {o : Bool}
theorem zero (T : Tw n f g L φ π o) : L 0 = 0 := by
  have h := T.xor 0 0 (Nat.two_pow_pos n) (Nat.two_pow_pos n)
  rwa [Nat.xor_self, Nat.xor_self] at h
theorem nz (T : Tw n f g L φ π o) (hn : n ≤ 4) {a : Nat} (ha : a < 2 ^ n) (h : a ≠ 0) : L a ≠ 0 := fun e => by
  have hp16 : 2 ^ n ≤ 16 := Nat.pow_le_pow_right (n := 2) (by decide) hn
  have h1 := T.pp a ha
  have h2 := pop_pos (by omega) h
  rw [e] at h1
  have : pop 0 = 0 := rfl
  omega
theorem inj (T : Tw n f g L φ π o) (hn : n ≤ 4) {a b : Nat} (ha : a < 2 ^ n) (hb : b < 2 ^ n) (e : L a = L b) : a = b := by
  by_cases h : a ^^^ b = 0
  · have h1 : a ^^^ (a ^^^ b) = a := by rw [h, Nat.xor_zero]
    rw [← Nat.xor_assoc, Nat.xor_self, Nat.zero_xor] at h1
    exact h1.symm
  · exact absurd (by rw [T.xor a b ha hb, e, Nat.xor_self]) (T.nz hn (Nat.xor_lt_two_pow ha hb) h)
/-- A block of one is a block of the other. -/
theorem sens (T : Tw n f g L φ π o) {x k : Nat} (hx : x < 2 ^ n) (hk : k < 2 ^ n) : (g (x ^^^ k) != g x) = (f (φ x ^^^ L k) != f (φ x)) := by
  rw [T.val _ (Nat.xor_lt_two_pow hx hk), T.val x hx, T.shift x k hx hk]
  cases f (φ x ^^^ L k) <;> cases f (φ x) <;> cases o <;> rfl
end Tw
end Go.Proofs.Ytnfboopfpkaeaaa
/- TwinR: contracts of functions. -/
namespace Go.Proofs.Ytnfboopfpkaeaaa
open Go Go.Eng Nim
set_option maxRecDepth 100000
theorem sub_len {α : Type} [DecidableEq α] : ∀ (M R : List α), M.Nodup → (∀ i ∈ M, i ∈ R) → M.length ≤ R.length
  | [], _, _, _ => Nat.zero_le _
  | i :: M, R, nd, h => by
    obtain ⟨h1, h2⟩ := List.nodup_cons.1 nd
    have hi := h i (List.mem_cons_self ..)
    have ih := sub_len M (R.erase i) h2 fun j hj => (List.mem_erase_of_ne fun e => h1 (by rw [← e]; exact hj)).2 (h j (List.mem_cons_of_mem _ hj))
    rw [List.length_erase_of_mem hi] at ih
    have := List.length_pos_of_mem hi
    show M.length + 1 ≤ R.length
    omega
theorem perm_same {α : Type} [DecidableEq α] : ∀ (M R : List α), M.Nodup → R.Nodup → (∀ i, i ∈ M ↔ i ∈ R) → M.Perm R
  | [], R, _, _, h => by
    cases R with
    | nil => exact List.Perm.nil
    | cons i R => exact absurd ((h i).2 (List.mem_cons_self ..)) List.not_mem_nil
  | i :: M, R, nd, nr, h => by
    obtain ⟨h1, h2⟩ := List.nodup_cons.1 nd
    have hi := (h i).1 (List.mem_cons_self ..)
    refine List.Perm.trans (List.Perm.cons i (perm_same M (R.erase i) h2 (nr.erase i) fun j => ?_)) (List.perm_cons_erase hi).symm
    rw [nr.mem_erase_iff]
    constructor
    · intro hj
      exact ⟨fun e => h1 (by rw [← e]; exact hj), (h j).1 (List.mem_cons_of_mem _ hj)⟩
    · rintro ⟨hji, hj⟩
      exact (List.mem_cons.1 ((h j).2 hj)).resolve_left hji
theorem pow_inj2 {i j : Nat} (h : 2 ^ i = 2 ^ j) : i = j := by
  rcases Nat.lt_trichotomy i j with h1 | h1 | h1
  · have := Nat.pow_lt_pow_right (a := 2) (by decide) h1; omega
  · exact h1
  · have := Nat.pow_lt_pow_right (a := 2) (by decide) h1; omega
theorem sp_range (f : Nat → Bool) (x : Nat) : ∀ n, sp f x n = ((List.range n).countP fun i => f (x ^^^ 2 ^ i) != f x : Nat)
  | 0 => rfl
  | n + 1 => by
    rw [sp_succ, sp_range f x n, List.range_succ, List.countP_append, List.countP_singleton]
    split <;> rfl
namespace Tw
variable {n : Nat} {f g : Nat → Bool} {L φ π : Nat → Nat} {o : Bool}
theorem p_inj (T : Tw n f g L φ π o) (hn : n ≤ 4) {i j : Nat} (hi : i < n) (hj : j < n) (e : π i = π j) : i = j :=
  pow_inj2 (T.inj hn (Nat.pow_lt_pow_right (by decide) hi) (Nat.pow_lt_pow_right (by decide) hj) (by rw [T.one i hi, T.one j hj, e]))
theorem map_nodup (T : Tw n f g L φ π o) (hn : n ≤ 4) : ∀ {M : List Nat}, M.Nodup → (∀ i ∈ M, i < n) → (M.map π).Nodup
  | [], _, _ => List.nodup_nil
  | i :: M, nd, h => by
    obtain ⟨h1, h2⟩ := List.nodup_cons.1 nd
    rw [List.map_cons]
    refine List.nodup_cons.2 ⟨fun hm => ?_, T.map_nodup hn h2 fun j hj => h j (List.mem_cons_of_mem _ hj)⟩
    obtain ⟨j, hj, e⟩ := List.mem_map.1 hm
    exact h1 (by rw [← T.p_inj hn (h j (List.mem_cons_of_mem _ hj)) (h i (List.mem_cons_self ..)) e]; exact hj)
theorem full (T : Tw n f g L φ π o) : L (2 ^ n - 1) = 2 ^ n - 1 := by
  have hp0 := Nat.two_pow_pos n
  have h0 : 2 ^ n - 1 < 2 ^ n := by omega
  obtain ⟨b, hb, e⟩ := T.sur _ h0
  have h1 := T.and b (2 ^ n - 1) hb h0
  rw [and_full hb, e, Nat.and_comm, and_full (T.llt _ h0)] at h1
  exact h1.symm
theorem spr (T : Tw n f g L φ π o) (hn : n ≤ 4) {x : Nat} (hx : x < 2 ^ n) : sp g x n ≤ sp f (φ x) n := by
  rw [sp_range, sp_range]
  have e : (List.range n).countP (fun i => g (x ^^^ 2 ^ i) != g x) = ((List.range n).map π).countP fun i => f (φ x ^^^ 2 ^ i) != f (φ x) := by
    rw [List.countP_map]
    refine List.countP_congr fun i hi => ?_
    have hi := List.mem_range.1 hi
    show _ ↔ (f (φ x ^^^ 2 ^ π i) != f (φ x)) = true
    rw [T.sens hx (Nat.pow_lt_pow_right (by decide) hi), T.one i hi]
  rw [e, List.countP_eq_length_filter, List.countP_eq_length_filter]
  refine Int.ofNat_le.2 (sub_len _ _ ((T.map_nodup hn List.nodup_range fun i hi => List.mem_range.1 hi).filter _) fun i hi => ?_)
  obtain ⟨h1, h2⟩ := List.mem_filter.1 hi
  obtain ⟨j, hj, rfl⟩ := List.mem_map.1 h1
  exact List.mem_filter.2 ⟨List.mem_range.2 (T.plt j (List.mem_range.1 hj)), h2⟩
theorem sb_eq (T : Tw n f g L φ π o) {x k : Nat} (hx : x < 2 ^ n) (hk : k < 2 ^ n) : sb g x k = sb f (φ x) (L k) := by
  unfold sb
  rw [show (g x != g (x ^^^ k)) = (g (x ^^^ k) != g x) from bne_comm, show (f (φ x) != f (φ x ^^^ L k)) = (f (φ x ^^^ L k) != f (φ x)) from bne_comm, T.sens hx hk]
theorem ptr_ (T : Tw n f g L φ π o) (hn : n ≤ 4) {x : Nat} (hx : x < 2 ^ n) : ∀ M m, m ≤ M → m < 2 ^ n → (pt g x (2 ^ n)).1 m ≤ (pt f (φ x) (2 ^ n)).1 (L m)
  | M, m, h, hm => by
    have hp16 : 2 ^ n ≤ 16 := Nat.pow_le_pow_right (n := 2) (by decide) hn
    rw [pt_rt g x (2 ^ n) (by omega) m m (Nat.le_refl _) hm, rt_at g x (2 ^ n) (by omega) hm]
    refine rin_up g x _ m _ (pt_nonneg f (φ x) (2 ^ n) (by omega) (T.llt m hm)) (fun k hk hs => ?_) m
    have hkm : k ≤ m := by rw [← hs]; exact Nat.and_le_right
    have hlt := xor_lt hk hs
    have hk2 : k < 2 ^ n := by omega
    match M, h with
    | 0, h => omega
    | M + 1, h =>
      have ih := T.ptr_ hn hx M (m ^^^ k) (by omega) (by omega)
      rw [← pt_rt g x (2 ^ n) (by omega) (m ^^^ k) (m ^^^ k) (Nat.le_refl _) (by omega), T.sb_eq hx hk2]
      have hLk : 0 < L k := Nat.pos_of_ne_zero (T.nz hn hk2 (by omega))
      have hb := pt_block f (φ x) (2 ^ n) (by omega) (L m) (L m) (Nat.le_refl _) (T.llt m hm) (L k) hLk (by rw [← T.and k m hk2 hm, hs])
      rw [← T.xor m k hm hk2] at hb
      omega
theorem rbr (T : Tw n f g L φ π o) (hn : n ≤ 4) {x : Nat} (hx : x < 2 ^ n) : rb g (2 ^ n) x ≤ rb f (2 ^ n) (φ x) := by
  have hp16 : 2 ^ n ≤ 16 := Nat.pow_le_pow_right (n := 2) (by decide) hn
  have hp0 := Nat.two_pow_pos n
  have e : ∀ (u : Nat → Bool) y, rb u (2 ^ n) y = (pt u y (2 ^ n)).1 (2 ^ n - 1) := fun u y => by
    rw [← bk_len u (2 ^ n) y (by omega) hp0, bk, tk_len u y (2 ^ n) (by omega) (2 ^ n) (2 ^ n - 1) (by omega) (by omega)]
  rw [e, e]
  have h := T.ptr_ hn hx (2 ^ n) (2 ^ n - 1) (by omega) (by omega)
  rwa [T.full] at h
theorem cpr (T : Tw n f g L φ π o) (hn : n ≤ 4) {x : Nat} (hx : x < 2 ^ n) : cp g (2 ^ n) x ≤ cp f (2 ^ n) (φ x) := by
  have hp0 := Nat.two_pow_pos n
  have hc := ce_lt f (φ x) (2 ^ n) hp0 (2 ^ n) (Nat.le_refl _)
  have hs := sme_iff.1 (ce_sme f n (φ x) (T.flt x hx) (2 ^ n))
  unfold cp at *
  generalize ce f (φ x) (2 ^ n) (2 ^ n) = a at hc hs
  obtain ⟨b, hb, rfl⟩ := T.sur a hc
  rw [T.pp b hb]
  refine cp_min g hb (sme_iff.2 fun y hy e => ?_)
  have hxy : x ^^^ y < 2 ^ n := Nat.xor_lt_two_pow hx hy
  have h0 : (x ^^^ y) &&& b = 0 := Nat.eq_of_testBit_eq fun j => by
    have h3 := congrArg (fun w => w.testBit j) e
    simp only [Nat.testBit_and] at h3
    rw [Nat.testBit_and, Nat.testBit_xor, Nat.zero_testBit]
    revert h3
    cases y.testBit j <;> cases x.testBit j <;> cases b.testBit j <;> simp
  have h1 : L (x ^^^ y) &&& L b = 0 := by rw [← T.and _ _ hxy hb, h0, T.zero]
  have hyx : y = x ^^^ (x ^^^ y) := by rw [← Nat.xor_assoc, Nat.xor_self, Nat.zero_xor]
  have h2 : φ y = φ x ^^^ L (x ^^^ y) := by rw [← T.shift x _ hx hxy, ← hyx]
  have h4 := hs (φ y) (T.flt y hy) (Nat.eq_of_testBit_eq fun j => by
    rw [h2, Nat.testBit_and, Nat.testBit_xor, Nat.testBit_and]
    have h3 := congrArg (fun w => w.testBit j) h1
    simp only [Nat.testBit_and, Nat.zero_testBit] at h3
    revert h3
    cases (L (x ^^^ y)).testBit j <;> cases (L b).testBit j <;> simp)
  rw [T.val y hy, T.val x hx, h4]
theorem fig012 (T : Tw n f g L φ π o) (hn : n ≤ 4) : fig g n 0 ≤ fig f n 0 ∧ fig g n 1 ≤ fig f n 1 ∧ fig g n 2 ≤ fig f n 2 :=
  ⟨mz_le _ _ (mz_nonneg _ _) _ fun x hx => Int.le_trans (T.spr hn hx) (mz_ge (fun x => sp f x n) _ _ (T.flt x hx)),
   mz_le _ _ (mz_nonneg _ _) _ fun x hx => Int.le_trans (T.rbr hn hx) (mz_ge _ _ _ (T.flt x hx)),
   mz_le _ _ (mz_nonneg _ _) _ fun x hx => Int.le_trans (T.cpr hn hx) (mz_ge _ _ _ (T.flt x hx))⟩
end Tw
end Go.Proofs.Ytnfboopfpkaeaaa
/- TwinS: contracts of functions. -/
namespace Go.Proofs.Ytnfboopfpkaeaaa
open Go Go.Eng Nim
set_option maxRecDepth 100000
theorem mnl_min (n m : Nat) (D : Nat → Nat) : ∀ k j, j < k → m &&& 2 ^ j = 0 → mnl n m D k ≤ D j
  | 0, j, h, _ => absurd h (Nat.not_lt_zero _)
  | k + 1, j, h, hz => by
    rw [mnl]
    by_cases hjk : j = k
    · subst hjk
      rw [if_pos (beq_iff_eq.2 hz)]
      exact Nat.min_le_right _ _
    · have ih := mnl_min n m D k j (by omega) hz
      split
      · exact Nat.le_trans (Nat.min_le_left _ _) ih
      · exact ih
theorem flip_and {x m i : Nat} (hz : m &&& 2 ^ i = 0) : (x ^^^ 2 ^ i) &&& m = x &&& m := Nat.eq_of_testBit_eq fun j => by
  rw [Nat.testBit_and, Nat.testBit_and]
  by_cases hij : i = j
  · subst hij; rw [(and_bit m i).1 hz, Bool.and_false, Bool.and_false]
  · rw [tb_other hij]
/-- Both parts that a bit makes. -/
theorem both (F : Nat → Nat) {x m i : Nat} (hz : m &&& 2 ^ i = 0) : max (F (x &&& m)) (F ((x &&& m) ||| 2 ^ i)) = max (F (x &&& (m ||| 2 ^ i))) (F ((x ^^^ 2 ^ i) &&& (m ||| 2 ^ i))) := by
  rw [and_or_bit hz, and_or_bit hz, tb_same, flip_and hz]
  cases x.testBit i <;> simp <;> omega
namespace Tw
variable {n : Nat} {f g : Nat → Bool} {L φ π : Nat → Nat} {o : Bool}
theorem one_sur (T : Tw n f g L φ π o) (hn : n ≤ 4) {i : Nat} (hi : i < n) : ∃ j, j < n ∧ π j = i := by
  refine Classical.byContradiction fun hc => ?_
  have h := sub_len (i :: (List.range n).map π) (List.range n) (List.nodup_cons.2 ⟨fun hm => by
    obtain ⟨j, hj, e⟩ := List.mem_map.1 hm
    exact hc ⟨j, List.mem_range.1 hj, e⟩, T.map_nodup hn List.nodup_range fun j hj => List.mem_range.1 hj⟩) fun j hj => by
    rcases List.mem_cons.1 hj with rfl | hj
    · exact List.mem_range.2 hi
    · obtain ⟨k, hk, rfl⟩ := List.mem_map.1 hj
      exact List.mem_range.2 (T.plt k (List.mem_range.1 hk))
  rw [List.length_cons, List.length_map, List.length_range] at h
  omega
theorem orr (T : Tw n f g L φ π o) {m j : Nat} (hm : m < 2 ^ n) (hj : j < n) (hz : m &&& 2 ^ j = 0) : L (m ||| 2 ^ j) = L m ||| 2 ^ π j ∧ L m &&& 2 ^ π j = 0 := by
  have hp : 2 ^ j < 2 ^ n := Nat.pow_lt_pow_right (by decide) hj
  have h1 : L m &&& 2 ^ π j = 0 := by rw [← T.one j hj, ← T.and m _ hm hp, hz, T.zero]
  exact ⟨by rw [or_bit ((and_bit m j).1 hz), T.xor m _ hm hp, T.one j hj, or_bit ((and_bit _ _).1 h1)], h1⟩
theorem lfr (T : Tw n f g L φ π o) (hn : n ≤ 4) : ∀ d m, 2 ^ n - m ≤ d → m < 2 ^ n → ∀ x, x < 2 ^ n → Lf g n m (x &&& m) ≤ Lf f n (L m) (φ x &&& L m)
  | 0, m, h, hm, _, _ => by omega
  | d + 1, m, h, hm, x, hx => by
    rw [Lf_eq g n m _ hm, Lf_eq f n (L m) _ (T.llt m hm)]
    by_cases hcg : al (cq g m (x &&& m)) (2 ^ n) = true
    · rw [if_pos hcg]; exact Nat.zero_le _
    · rw [if_neg hcg]
      by_cases hcf : al (cq f (L m) (φ x &&& L m)) (2 ^ n) = true
      · refine absurd (al_iff.2 fun y hy => ?_) hcg
        unfold cq
        by_cases e : y &&& m = x &&& m
        · have hxm : x &&& m < 2 ^ n := Nat.lt_of_le_of_lt Nat.and_le_left hx
          have key : ∀ z, z < 2 ^ n → z &&& m = x &&& m → φ z &&& L m = φ x &&& L m := fun z hz ez => by
            have hxz : x ^^^ z < 2 ^ n := Nat.xor_lt_two_pow hx hz
            have hzx : z = x ^^^ (x ^^^ z) := by rw [← Nat.xor_assoc, Nat.xor_self, Nat.zero_xor]
            have h0 : (x ^^^ z) &&& m = 0 := Nat.eq_of_testBit_eq fun j => by
              have h3 := congrArg (fun w => w.testBit j) ez
              simp only [Nat.testBit_and] at h3
              rw [Nat.testBit_and, Nat.testBit_xor, Nat.zero_testBit]
              revert h3
              cases z.testBit j <;> cases x.testBit j <;> cases m.testBit j <;> simp
            have h1 : L (x ^^^ z) &&& L m = 0 := by rw [← T.and _ _ hxz hm, h0, T.zero]
            have h2 : φ z = φ x ^^^ L (x ^^^ z) := by rw [← T.shift x _ hx hxz, ← hzx]
            refine Nat.eq_of_testBit_eq fun j => ?_
            rw [h2, Nat.testBit_and, Nat.testBit_xor, Nat.testBit_and]
            have h3 := congrArg (fun w => w.testBit j) h1
            simp only [Nat.testBit_and, Nat.zero_testBit] at h3
            revert h3
            cases (L (x ^^^ z)).testBit j <;> cases (L m).testBit j <;> simp
          have c1 := cq_same hcf (T.flt y hy) (key y hy e)
          have c2 := cq_same hcf (T.flt _ hxm) (key _ hxm (by rw [Nat.and_assoc, Nat.and_self]))
          rw [e, T.val y hy, T.val _ hxm, c1, c2, beq_self_eq_true, Bool.or_true]
        · rw [bne_iff_ne.2 e, Bool.true_or]
      · rw [if_neg hcf]
        rcases mnl_cases n (L m) (fun i => 1 + max (Lf f n (L m ||| 2 ^ i) (φ x &&& L m)) (Lf f n (L m ||| 2 ^ i) ((φ x &&& L m) ||| 2 ^ i))) n with h6 | ⟨i, hi, hz, e⟩
        · rw [h6]; exact mnl_le _ _ _ _
        · rw [e]
          obtain ⟨j, hj, rfl⟩ := T.one_sur hn hi
          have hp : 2 ^ j < 2 ^ n := Nat.pow_lt_pow_right (by decide) hj
          have hzj : m &&& 2 ^ j = 0 := by
            refine Classical.byContradiction fun hne => T.nz hn (Nat.lt_of_le_of_lt Nat.and_le_left hm) hne ?_
            rw [T.and m _ hm hp, T.one j hj]; exact hz
          have hmj : m ||| 2 ^ j < 2 ^ n := or_small hm hp
          have hgt := or_gt hzj
          obtain ⟨o1, -⟩ := T.orr hm hj hzj
          refine Nat.le_trans (mnl_min n m _ n j hj hzj) ?_
          show 1 + max (Lf g n (m ||| 2 ^ j) (x &&& m)) (Lf g n (m ||| 2 ^ j) ((x &&& m) ||| 2 ^ j)) ≤ 1 + max (Lf f n (L m ||| 2 ^ π j) (φ x &&& L m)) (Lf f n (L m ||| 2 ^ π j) ((φ x &&& L m) ||| 2 ^ π j))
          rw [both (Lf g n (m ||| 2 ^ j)) hzj, both (Lf f n (L m ||| 2 ^ π j)) hz, ← o1]
          have i1 := T.lfr hn d (m ||| 2 ^ j) (by omega) hmj x hx
          have i2 := T.lfr hn d (m ||| 2 ^ j) (by omega) hmj (x ^^^ 2 ^ j) (xor_small hx hp)
          rw [T.shift x _ hx hp, T.one j hj] at i2
          omega
end Tw
/-! The degree is the most directions in which there is a difference. -/

theorem Dl_flip (f : Nat → Int) {L : List Nat} {i : Nat} (hi : i ∈ L) (y : Nat) : Dl f L (y ^^^ 2 ^ i) = -Dl f L y := by
  rw [Dl_perm f (List.perm_cons_erase hi), Dl_perm f (List.perm_cons_erase hi), Dl, Dl, Nat.xor_assoc, Nat.xor_self, Nat.xor_zero]
  omega
theorem set_bits (f : Nat → Int) (L : List Nat) (y : Nat) (h : Dl f L y ≠ 0) : ∀ M : List Nat, (∀ i ∈ M, i ∈ L) → ∃ z, Dl f L z ≠ 0 ∧ (∀ i ∈ M, z.testBit i = true) ∧ ∀ j, j ∉ L → z.testBit j = y.testBit j
  | [], _ => ⟨y, h, fun i hi => absurd hi List.not_mem_nil, fun _ _ => rfl⟩
  | i :: M, hM => by
    obtain ⟨z, z1, z2, z3⟩ := set_bits f L y h M fun j hj => hM j (List.mem_cons_of_mem _ hj)
    have hi := hM i (List.mem_cons_self ..)
    cases hb : z.testBit i with
    | true => exact ⟨z, z1, fun j hj => (List.mem_cons.1 hj).elim (fun e => by rw [e]; exact hb) (z2 j), z3⟩
    | false =>
      refine ⟨z ^^^ 2 ^ i, by rw [Dl_flip f hi]; omega, fun j hj => ?_, fun j hj => by rw [tb_other fun e => hj (by rw [← e]; exact hi)]; exact z3 j hj⟩
      by_cases e : i = j
      · subst e; rw [tb_same, hb]; rfl
      · rw [tb_other e]
        exact z2 j ((List.mem_cons.1 hj).resolve_left fun h => e h.symm)
theorem more_bits (f : Nat → Int) (n : Nat) : ∀ (B L : List Nat) (y : Nat), L.Nodup → (∀ i ∈ L, i < n) → (∀ i, y.testBit i = true → i ∈ L ∨ (i ∈ B ∧ i < n)) → Dl f L y ≠ 0 → ∃ L' y', L.length ≤ L'.length ∧ L'.Nodup ∧ (∀ i ∈ L', i < n) ∧ (∀ i, y'.testBit i = true → i ∈ L') ∧ Dl f L' y' ≠ 0
  | [], L, y, nd, hL, hy, h => ⟨L, y, Nat.le_refl _, nd, hL, fun i hi => (hy i hi).resolve_right fun h => absurd h.1 List.not_mem_nil, h⟩
  | i :: B, L, y, nd, hL, hy, h => by
    by_cases hc : y.testBit i = true ∧ i ∉ L
    · have hin : i < n := ((hy i hc.1).resolve_left hc.2).2
      by_cases h1 : Dl f (i :: L) y = 0
      · rw [Dl] at h1
        exact more_bits f n B L (y ^^^ 2 ^ i) nd hL (fun j hj => by
          by_cases e : i = j
          · subst e; rw [tb_same, hc.1] at hj; cases hj
          · rw [tb_other e] at hj
            exact (hy j hj).imp id fun h => ⟨(List.mem_cons.1 h.1).resolve_left fun h => e h.symm, h.2⟩) (by omega)
      · obtain ⟨L', y', a, b, c, d, e⟩ := more_bits f n B (i :: L) y (List.nodup_cons.2 ⟨hc.2, nd⟩) (fun j hj => (List.mem_cons.1 hj).elim (fun e => by rw [e]; exact hin) (hL j)) (fun j hj => by
          rcases hy j hj with h | ⟨h2, h3⟩
          · exact .inl (List.mem_cons_of_mem _ h)
          · rcases List.mem_cons.1 h2 with e | h2
            · exact .inl (by rw [e]; exact List.mem_cons_self ..)
            · exact .inr ⟨h2, h3⟩) h1
        rw [List.length_cons] at a
        exact ⟨L', y', by omega, b, c, d, e⟩
    · exact more_bits f n B L y nd hL (fun j hj => by
        rcases hy j hj with h | ⟨h2, h3⟩
        · exact .inl h
        · rcases List.mem_cons.1 h2 with e | h2
          · subst e
            exact .inl (Classical.byContradiction fun hn => hc ⟨hj, hn⟩)
          · exact .inr ⟨h2, h3⟩) h
theorem dg_ge (v : Nat → Int) : ∀ k x, x < k → v x ≠ 0 → pop x ≤ dg v k
  | 0, _, h, _ => absurd h (Nat.not_lt_zero _)
  | k + 1, x, h, h0 => by
    rw [dg]
    by_cases hxk : x = k
    · subst hxk
      rw [if_neg h0]
      exact Nat.le_max_right _ _
    · have ih := dg_ge v k x (by omega) h0
      split
      · exact ih
      · exact Nat.le_trans ih (Nat.le_max_left _ _)
theorem deg_ge (f : Nat → Bool) (n : Nat) (hn : n ≤ 6) (L : List Nat) (y : Nat) (nd : L.Nodup) (hL : ∀ i ∈ L, i < n) (hy : y < 2 ^ n) (h : Dl (num f) L y ≠ 0) : L.length ≤ dgF f n := by
  obtain ⟨L', y', a, b, c, d, e⟩ := more_bits (num f) n (List.range n) L y nd hL (fun i hi => .inr (by
    have : i < n := by
      refine Nat.lt_of_not_le fun hni => ?_
      rw [Nat.testBit_lt_two_pow (Nat.lt_of_lt_of_le hy (Nat.pow_le_pow_right (by decide) hni))] at hi
      cases hi
    exact ⟨List.mem_range.2 this, this⟩)) h
  obtain ⟨z, z1, z2, z3⟩ := set_bits (num f) L' y' e L' fun _ h => h
  have zb : ∀ i, z.testBit i = true ↔ i ∈ L' := fun i => ⟨fun hi => Classical.byContradiction fun hc => by rw [z3 i hc] at hi; exact hc (d i hi), z2 i⟩
  have hz : z < 2 ^ n := Nat.lt_pow_two_of_testBit z fun i hi => by
    cases hb : z.testBit i with
    | false => rfl
    | true => have := c i ((zb i).1 hb); omega
  have hp := perm_same L' (bitsL n z) b (bitsL_nodup n z) fun i => by
    rw [mem_bitsL, zb]
    exact ⟨fun hi => ⟨c i hi, hi⟩, fun hi => hi.2⟩
  have h1 := dg_ge (trn (up fun a b => b - a) n (num f)) (2 ^ n) z hz (by rw [trn_Dl, ← Dl_perm _ hp]; exact z1)
  rw [← pop_len hn hz, ← hp.length_eq] at h1
  exact Nat.le_trans a h1
namespace Tw
variable {n : Nat} {f g : Nat → Bool} {L φ π : Nat → Nat} {o : Bool}
theorem dlr (T : Tw n f g L φ π o) : ∀ (M : List Nat) (x : Nat), x < 2 ^ n → (∀ i ∈ M, i < n) → Dl (num g) M x = (if o = true then -1 else 1) * Dl (num f) (M.map π) (φ x) + if M = [] ∧ o = true then 1 else 0
  | [], x, hx, _ => by
    show num g x = (if o = true then -1 else 1) * num f (φ x) + _
    unfold num
    rw [T.val x hx]
    cases f (φ x) <;> cases o <;> rfl
  | i :: M, x, hx, h => by
    have hi := h i (List.mem_cons_self ..)
    have hp : 2 ^ i < 2 ^ n := Nat.pow_lt_pow_right (by decide) hi
    have a1 := T.dlr M x hx fun j hj => h j (List.mem_cons_of_mem _ hj)
    have a2 := T.dlr M (x ^^^ 2 ^ i) (xor_small hx hp) fun j hj => h j (List.mem_cons_of_mem _ hj)
    rw [T.shift x _ hx hp, T.one i hi] at a2
    rw [Dl, List.map_cons, Dl, a1, a2, if_neg (show ¬(i :: M = [] ∧ o = true) by simp), Int.mul_sub]
    omega
theorem dgr (T : Tw n f g L φ π o) (hn : n ≤ 4) : dgF g n ≤ dgF f n := by
  refine dg_le_of _ _ _ fun x hx h0 => ?_
  rw [trn_Dl] at h0
  rw [← pop_len (by omega) hx]
  have hb : ∀ i ∈ bitsL n x, i < n := fun i hi => (mem_bitsL.1 hi).1
  by_cases hne : bitsL n x = []
  · rw [hne]; exact Nat.zero_le _
  have hz : (if bitsL n x = [] ∧ o = true then (1 : Int) else 0) = 0 := if_neg fun h => hne h.1
  rw [T.dlr _ x hx hb, hz, Int.add_zero] at h0
  have h1 : Dl (num f) ((bitsL n x).map π) (φ x) ≠ 0 := fun e => by rw [e, Int.mul_zero] at h0; exact h0 rfl
  have h2 := deg_ge f n (by omega) ((bitsL n x).map π) (φ x) (T.map_nodup hn (bitsL_nodup n x) hb) (fun i hi => by
    obtain ⟨j, hj, rfl⟩ := List.mem_map.1 hi
    exact T.plt j (hb j hj)) (T.flt x hx) h1
  rwa [List.length_map] at h2
theorem figs (T : Tw n f g L φ π o) (hn : n ≤ 4) : ∀ k, k < 5 → fig g n k ≤ fig f n k := fun k hk => by
  obtain ⟨a, b, c⟩ := T.fig012 hn
  rcases (by omega : k = 0 ∨ k = 1 ∨ k = 2 ∨ k = 3 ∨ k = 4) with rfl | rfl | rfl | rfl | rfl
  · exact a
  · exact b
  · exact c
  · have hp0 := Nat.two_pow_pos n
    have h := T.lfr hn (2 ^ n) 0 (by omega) hp0 0 hp0
    rw [T.zero, Nat.and_zero, Nat.and_zero] at h
    exact Int.ofNat_le.2 h
  · exact Int.ofNat_le.2 (T.dgr hn)
end Tw
theorem orb_figs {n : Nat} (hn : n ≤ 4) {f g : Nat → Bool} (h : Orb n f g) : ∀ k, k < 5 → fig f n k = fig g n k := fun k hk => by
  obtain ⟨_, _, _, _, T⟩ := tw_of hn h
  obtain ⟨_, _, _, _, T'⟩ := tw_of hn (h.symm hn)
  exact Int.le_antisymm (T'.figs hn k hk) (T.figs hn k hk)
theorem twin_law (f : Nat → Bool) (n : Nat) (p : List Nat) (m : Nat) (o : Bool) (hn : n ≤ 4) (hp : p ∈ rp n) (hm : m < 2 ^ n) : TwinLaw f (tw f p m o) n := by
  have hP := rp_in n hn hp
  have h : Orb n f (tw f p m o) := ⟨p, m, o, hP, hm, fun _ _ => rfl⟩
  exact ⟨twF_same hn hP h, orb_figs hn h, orb_figs hn (twF_orb hn f hP)⟩
theorem said8 (x a0 a1 a2 a3 a4 : Int) (h : Hp) : ∃ H, evInv Try.prog orc 100000 300 (.fn 8 [.int .u64 x, .agg #[I a0, I a1, I a2, I a3, I a4]]) h = some (.bool true, H) :=
  s8 twin_law x a0 a1 a2 a3 a4 100000 299 (upT 99) h
end Go.Proofs.Ytnfboopfpkaeaaa
