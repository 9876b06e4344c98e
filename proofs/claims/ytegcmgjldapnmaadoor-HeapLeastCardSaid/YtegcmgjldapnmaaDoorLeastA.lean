/- LeastA: contracts of functions. -/
import Derived.Test.YtegcmgjldapnmaaDoorProg
import Derived.KernelRfl
import Derived.Test.YtegcmgjldapnmaaDoorSyB
import Derived.Test.YtegcmgjldapnmaaDoorLeastM
namespace Go.Proofs.YtegcmgjldapnmaaDoor
open Go Go.Eng Nim
set_option maxRecDepth 100000
set_option maxHeartbeats 4000000
/-- The table: what is done. -/
def tab (b x y q : Nat) : Nat := if (q / 16 < x ∧ q % 16 ≤ b) ∨ (q / 16 = x ∧ q % 16 < y) then nm 4 (q / 16) (q % 16) else 0
def cellsT (b x y : Nat) : List Value := (List.range 256).map fun q => J (tab b x y q)
/-- What is put on the list for i, k. -/
def put3 (x y i k : Nat) : Nat := nm 4 i y ^^^ nm 4 x k ^^^ nm 4 i k
/-- The list when i rows and k of the next are done. -/
def lst (x y i k : Nat) : List Nat := (List.range i).flatMap (fun i => (List.range y).map (put3 x y i)) ++ (List.range k).map (put3 x y i)
theorem cellsT_get {b x y i k : Nat} (hi : i < 16) (hk : k < 16) (hd : (i < x ∧ k ≤ b) ∨ (i = x ∧ k < y)) : (cellsT b x y)[i * 16 + k]? = some (J (nm 4 i k)) := by
  have h1 : (i * 16 + k) / 16 = i := by omega
  have h2 : (i * 16 + k) % 16 = k := by omega
  unfold cellsT
  rw [List.getElem?_map, List.getElem?_range (by omega)]
  simp only [Option.map_some, tab, h1, h2, if_pos hd]
/-- What holds while the list is made. -/
structure InL (b p x y : Nat) (l : Value) (zs : List Nat) (g : Hp) : Prop where
  lt : p < g.next
  t : g.get p = some (.cells (cellsT b x y) 63 false)
  sl : OpenSl g 3 l (zs.map J)
  ne : ∀ n c, l ≠ .slice (some ⟨p, 0, none⟩) n c
theorem InL.app {b p x y : Nat} {l : Value} {zs : List Nat} {g : Hp} (H : InL b p x y l zs g) (v : Nat) (hn : zs.length < 1000) : ∃ l' g', appendOp Tryd.prog (g.new (.cells [J v] 3 false)) 32 l (.slice (some ⟨g.next, 0, none⟩) 1 2) = some (l', g') ∧ InL b p x y l' (zs ++ [v]) g' := by
  obtain ⟨l', g', e1, e2, e3, e4, e5⟩ := append1 slT H.sl (v := J v) rfl (by rw [List.length_map]; omega)
  refine ⟨l', g', e1, ⟨Nat.lt_of_lt_of_le H.lt e3, ?_, by rw [List.map_append]; exact e2, e5 p H.lt⟩⟩
  rw [e4 p H.lt H.ne]
  exact H.t

theorem idx2 {p i k : Nat} (hi : i < 16) (hk : k < 16) : indexAddrOp Tryd.prog 63 (ptr p 0) (J i) = some (ptr p (i * 16)) ∧ indexAddrOp Tryd.prog 62 (ptr p (i * 16)) (J k) = some (ptr p (i * 16 + k)) := by
  refine ⟨(idxArr (e := 62) (n := 16) (s := 16) (by kernel_rfl) (by kernel_rfl) hi).trans (by rw [Nat.zero_add]), (idxArr (e := 3) (n := 16) (s := 1) (by kernel_rfl) (by kernel_rfl) hk).trans (by rw [Nat.mul_one])⟩
theorem InL.get {b p x y : Nat} {l : Value} {zs : List Nat} {g : Hp} (H : InL b p x y l zs g) {i k : Nat} (hi : i < 16) (hk : k < 16) (hd : (i < x ∧ k ≤ b) ∨ (i = x ∧ k < y)) : loadT Tryd.prog g 3 (ptr p (i * 16 + k)) = some (J (nm 4 i k)) :=
  load1 aggI H.t (cellsT_get hi hk hd)
theorem cellsT_set {b x y : Nat} (hx : x < 16) (hb : b < 16) (hy : y ≤ b) : (cellsT b x y).set (x * 16 + y) (J (nm 4 x y)) = cellsT b x (y + 1) := by
  refine List.ext_getElem? fun q => ?_
  rw [List.getElem?_set]
  unfold cellsT
  simp only [List.length_map, List.length_range, List.getElem?_map]
  by_cases hq : x * 16 + y = q
  · subst hq
    have h1 : (x * 16 + y) / 16 = x := by omega
    have h2 : (x * 16 + y) % 16 = y := by omega
    rw [if_pos rfl, if_pos (by omega), List.getElem?_range (by omega)]
    simp only [Option.map_some, tab, h1, h2]
    rw [if_pos (by simp)]
  · rw [if_neg hq]
    by_cases hl : q < 256
    · rw [List.getElem?_range hl]
      simp only [Option.map_some, tab]
      have : ((q / 16 < x ∧ q % 16 ≤ b) ∨ (q / 16 = x ∧ q % 16 < y)) ↔ ((q / 16 < x ∧ q % 16 ≤ b) ∨ (q / 16 = x ∧ q % 16 < y + 1)) := by omega
      by_cases hc : (q / 16 < x ∧ q % 16 ≤ b) ∨ (q / 16 = x ∧ q % 16 < y)
      · rw [if_pos hc, if_pos (this.1 hc)]
      · rw [if_neg hc, if_neg (fun h => hc (this.2 h))]
    · rw [List.getElem?_eq_none (by simpa using hl)]; rfl
theorem cellsT_row {b x : Nat} : cellsT b x (b + 1) = cellsT b (x + 1) 0 := by
  unfold cellsT
  refine List.map_congr_left fun q _ => ?_
  simp only [tab]
  have : ((q / 16 < x ∧ q % 16 ≤ b) ∨ (q / 16 = x ∧ q % 16 < b + 1)) ↔ ((q / 16 < x + 1 ∧ q % 16 ≤ b) ∨ (q / 16 = x + 1 ∧ q % 16 < 0)) := by omega
  by_cases hc : (q / 16 < x ∧ q % 16 ≤ b) ∨ (q / 16 = x ∧ q % 16 < b + 1)
  · rw [if_pos hc, if_pos (this.1 hc)]
  · rw [if_neg hc, if_neg (fun h => hc (this.2 h))]
theorem lst_len {x y i j : Nat} (hi : i < 16) (hy : y < 16) (hj : j < 16) : (lst x y i j).length < 1000 := by
  have h : i * y ≤ 15 * 15 := Nat.mul_le_mul (by omega) (by omega)
  simp only [lst, List.length_append, List.length_flatMap, List.length_map, List.length_range, List.map_const', List.sum_replicate_nat]
  omega
def mexOf (m : Nat) (zs : List Nat) : Prop := (∀ k, k < m → k ∈ zs) ∧ m ∉ zs
theorem mex_one {m m' : Nat} {zs : List Nat} (h : mexOf m zs) (h' : mexOf m' zs) : m = m' := by
  rcases Nat.lt_trichotomy m m' with hl | he | hl
  · exact absurd (h'.1 m hl) h.2
  · exact he
  · exact absurd (h.1 m' hl) h'.2
theorem mex_all : (List.range 16).all (fun x => (List.range 16).all fun y => (List.range (nm 4 x y)).all (fun k => (lst x y x 0).contains k) && !(lst x y x 0).contains (nm 4 x y) && (lst x y x 0).all (fun z => Nat.blt z 16) && Nat.blt (lst x y x 0).length 300) = true := by decide +kernel
theorem mex4 {x y : Nat} (hx : x < 16) (hy : y < 16) : mexOf (nm 4 x y) (lst x y x 0) ∧ (∀ z ∈ lst x y x 0, z < 16) ∧ (lst x y x 0).length < 300 := by
  have h := List.all_eq_true.1 (List.all_eq_true.1 mex_all x (List.mem_range.2 hx)) y (List.mem_range.2 hy)
  simp only [Bool.and_eq_true, Bool.not_eq_true'] at h
  obtain ⟨⟨⟨h1, h2⟩, h3⟩, h4⟩ := h
  refine ⟨⟨fun k hk => ?_, fun hm => ?_⟩, fun z hz => ?_, ?_⟩
  · exact List.contains_iff_mem.1 (List.all_eq_true.1 h1 k (List.mem_range.2 hk))
  · rw [List.contains_iff_mem.2 hm] at h2; cases h2
  · exact Nat.le_of_ble_eq_true (List.all_eq_true.1 h3 z hz)
  · exact Nat.le_of_ble_eq_true h4
end Go.Proofs.YtegcmgjldapnmaaDoor
