/- GraphJ: contracts of functions. -/
import Derived.Test.YtegcmgjldapnmaaDoorProg
import Derived.KernelRfl
import Derived.Test.YtegcmgjldapnmaaDoorSyB
import Derived.Test.YtegcmgjldapnmaaDoorGraphI
namespace Go.Proofs.YtegcmgjldapnmaaDoor
open Go Go.Eng Nim
set_option maxRecDepth 100000
theorem row_short : ∀ (r : List Nat) (a N : Nat), r.Pairwise (· < ·) → (∀ t ∈ r, a ≤ t ∧ t < N) → a ≤ N → r.length + a ≤ N
  | [], a, N, _, _, h => by simpa using h
  | t :: r, a, N, hp, hb, h => by
    obtain ⟨h1, h2⟩ := List.pairwise_cons.1 hp
    have ht := hb t (by simp)
    have := row_short r (t + 1) N h2 (fun u hu => ⟨h1 u hu, (hb u (by simp [hu])).2⟩) (by omega)
    simp only [List.length_cons]
    omega
structure Good (G : List (List Nat)) : Prop where
  l1 : 1 ≤ G.length
  l2 : G.length ≤ 200
  r : ∀ i, (grow G i).Pairwise (· < ·) ∧ ∀ t ∈ grow G i, t < G.length
theorem Good.len {G : List (List Nat)} (hG : Good G) (i : Nat) : (grow G i).length ≤ 200 := by
  have h2 := hG.l2
  have := row_short (grow G i) 0 G.length (hG.r i).1 (fun t ht => ⟨Nat.zero_le _, (hG.r i).2 t ht⟩) (Nat.zero_le _)
  omega
theorem grow_get {G : List (List Nat)} {i : Nat} (hi : i < G.length) : G[i] = grow G i := by
  simp [grow, List.getD_eq_getElem?_getD, List.getElem?_eq_getElem hi]
theorem Good.ok {G : List (List Nat)} (hG : Good G) : GrOK (gI G) := by
  refine ⟨by rw [gI_len]; exact hG.l1, by rw [gI_len]; exact hG.l2, fun r hr => ?_⟩
  rw [gI_len]
  obtain ⟨s, hs, rfl⟩ := List.mem_map.1 hr
  obtain ⟨i, hi, rfl⟩ := List.getElem_of_mem hs
  rw [grow_get hi]
  obtain ⟨hp, hb⟩ := hG.r i
  intro j hj _
  rw [List.length_map] at hj
  rw [List.getElem_map]
  refine ⟨by simp, by simpa using hb _ (List.getElem_mem hj), fun hp0 => ?_⟩
  rw [List.getElem_map]
  have := List.pairwise_iff_getElem.1 hp (j - 1) j (by omega) hj (by omega)
  simpa using this
theorem Good.short {G : List (List Nat)} (hG : Good G) : ∀ r ∈ gI G, r.length < 100000 := by
  intro r hr
  obtain ⟨s, hs, rfl⟩ := List.mem_map.1 hr
  obtain ⟨i, hi, rfl⟩ := List.getElem_of_mem hs
  rw [grow_get hi, List.length_map]
  have := hG.len i
  omega
theorem chk0 {G : List (List Nat)} (hG : Good G) (n : Nat) (x : Value) (X : Hp) (hx : Gr X x (gI G)) : Ev 100000 (n + 1) 20 [x] X = some (J 0, X) := by
  have h2 := hG.l2
  obtain ⟨y, X', e, rfl, hc⟩ := s20 (gI G) 100000 n (by rw [gI_len]; omega) hG.short x X hx (by decide)
  rcases hc with ⟨rfl, _⟩ | ⟨_, hc⟩
  · exact e
  · exact absurd hG.ok hc
theorem out39 {G : List (List Nat)} (hG : Good G) (n : Nat) (x : Value) (X : Hp) (hx : Gr X x (gI G)) : ∃ X', Ev 100000 (n + 1) 39 [x] X = some (.slice (some ⟨X.next, 0, none⟩) G.length (2 * G.length), X') ∧ X.Ext X' ∧ PS X.next G.length (refS G (G.length + 1)) X' := by
  obtain ⟨y, X', e, rfl, h1, h2⟩ := s39 G 100000 n hG.l2 (by decide) (by decide) (fun i => by have := hG.len i; omega) (fun i t ht => (hG.r i).2 t ht) x X hx
  exact ⟨X', e, h1, h2⟩
theorem out21 {G : List (List Nat)} (hG : Good G) (n : Nat) (x : Value) (X : Hp) (hx : Gr X x (gI G)) : ∃ y H', Ev 100000 (n + 2) 21 [x] X = some (y, H') ∧ ∃ ka kb, y = .tuple #[ka, kb, J 0] ∧ X.Ext H' ∧ Rds H' ka (cellsF G.length (kF (refS G (G.length + 1)))) ∧ Rds H' kb (cellsF G.length (dF (refS G (G.length + 1)))) := by
  obtain ⟨X', e, h1, h2⟩ := out39 hG n x X hx
  exact s21 G.length (refS G (G.length + 1)) 100000 (n + 1) hG.l2 (by decide) x X X' (chk0 hG n x X hx) e h1 h2
theorem out22 {G : List (List Nat)} (hG : Good G) (n : Nat) (x : Value) (X : Hp) (hx : Gr X x (gI G)) (i : Nat) (hi : i < G.length) : ∃ y X', Ev 100000 (n + 2) 22 [x, J i] X = some (y, X') ∧ X.Ext X' ∧ y = (match bestP G (refS G (G.length + 1)) i with | some t => .tuple #[J t, J 0] | none => .tuple #[J 0, J 4]) := by
  obtain ⟨X', e, h1, h2⟩ := out39 hG n x X hx
  have V := inv_refS (G := G) (G.length + 1)
  have hl := hG.l2
  refine s22 G (refS G (G.length + 1)) i 100000 (n + 1) hi V.k (fun t => ?_) hG.l2 (fun i => by have := hG.len i; omega) (by decide) (fun i t ht => (hG.r i).2 t ht) x X X' hx (chk0 hG n x X hx) e h1 h2
  by_cases h : (refS G (G.length + 1) t).1 = 2
  · rw [V.dr t h]; exact ⟨by decide, by decide⟩
  · have := V.di t h; omega
theorem run7 (v : Value) (l : List (List Int)) (h : Hp) (hg : Gr h v l) (hll : l.length < 2 ^ 63) (hrow : ∀ r ∈ l, r.length < 2 ^ 63) : ∃ H, Ev 100000 1000 7 [v] h = some (.bool true, H) := by
  obtain ⟨x, H, e26, X0, G, hx, h1, h30, hG⟩ := s26 l 30 100000 998 (by decide) (by decide) (by decide) hll hrow v h hg
  have hGd : Good G := ⟨h1, by omega, hG⟩
  exact s7 100000 999 (by decide) v h x H G e26 hx h30 (fun i t ht => (hG i).2 t ht) (fun i => by have := hGd.len i; omega) (by decide) (out21 hGd 997 x H hx)
    (fun i X hi k => out22 hGd 997 x X (hx.ext k) i hi) (fun h => rfl)
namespace heapPlays
theorem run (v : Value) (l : List (List Int)) {h : Hp} (hg : Gr h v l) (hll : l.length < 2 ^ 63) (hrow : ∀ r ∈ l, r.length < 2 ^ 63) : ∃ H, evInv Tryd.prog orc 100000 1000 (.fn 7 [v]) h = some (.bool true, H) := run7 v l h hg hll hrow
end heapPlays
end Go.Proofs.YtegcmgjldapnmaaDoor
