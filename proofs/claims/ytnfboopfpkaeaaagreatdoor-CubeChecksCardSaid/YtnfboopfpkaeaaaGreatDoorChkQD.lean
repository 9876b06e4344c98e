/- A slice of bools that is an argument, as the evaluator sees it. -/
import Derived.Test.YtnfboopfpkaeaaaGreatDoorProg
import Derived.KernelRfl
import Derived.Test.YtnfboopfpkaeaaaGreatDoorSyF
import Derived.Test.YtnfboopfpkaeaaaGreatDoorChkQC
import Derived.ChangeSlices
import Derived.ChangeArms
import Derived.Deep.Grids
import Derived.Test.YtnfboopfpkaeaaaGreatDoorEngN
namespace Go.Proofs.YtnfboopfpkaeaaaGreatDoor
open Go Go.Eng Nim
set_option maxRecDepth 100000
set_option maxHeartbeats 4000000
theorem bad6 (N : Nat) (a : Option Addr) (c lf m : Nat) (h : Hp) (ck : ∀ h, Ev lf m 5 [.slice a N c] h = some (J 70, h)) : ∃ v h', Ev lf (m + 1) 6 [.slice a N c] h = some (v, h') ∧ v = .tuple #[.slice none 0 0, J 70] ∧ h.Ext h' := by
  refine fnS_ok (Q := fun v h' => v = .tuple #[.slice none 0 0, J 70] ∧ h.Ext h') ?_
  have W := Sto.start h
  refine sy_call 0 (by kernel_rfl) (ck (h)) ?_
  refine ok_go 2 ?_
  refine sy_done 0 (v := Value.tuple { toList := [Value.slice none 0 0, Value.int IntKind.i64 (Int.ofNat 70)] }) (h := h) (by kernel_rfl) ?_
  exact ⟨rfl, W.ext⟩
theorem bad7 (N : Nat) (a : Option Addr) (c lf m : Nat) (h : Hp) (ck : ∀ h, Ev lf m 5 [.slice a N c] h = some (J 70, h)) : ∃ v h', Ev lf (m + 1) 7 [.slice a N c] h = some (v, h') ∧ v = .tuple #[.slice none 0 0, J 70] ∧ h.Ext h' := by
  refine fnS_ok (Q := fun v h' => v = .tuple #[.slice none 0 0, J 70] ∧ h.Ext h') ?_
  have W := Sto.start h
  refine sy_call 0 (by kernel_rfl) (ck (h)) ?_
  refine ok_go 2 ?_
  refine sy_done 0 (v := Value.tuple { toList := [Value.slice none 0 0, Value.int IntKind.i64 (Int.ofNat 70)] }) (h := h) (by kernel_rfl) ?_
  exact ⟨rfl, W.ext⟩
theorem bad8 (N : Nat) (a : Option Addr) (c lf m : Nat) (h : Hp) (ck : ∀ h, Ev lf m 5 [.slice a N c] h = some (J 70, h)) : ∃ v h', Ev lf (m + 1) 8 [.slice a N c] h = some (v, h') ∧ v = .tuple #[J 0, J 70] ∧ h.Ext h' := by
  refine fnS_ok (Q := fun v h' => v = .tuple #[J 0, J 70] ∧ h.Ext h') ?_
  have W := Sto.start h
  refine sy_call 0 (by kernel_rfl) (ck (h)) ?_
  refine ok_go 2 ?_
  refine sy_done 0 (v := Value.tuple { toList := [Value.int IntKind.i64 (Int.ofNat 0), Value.int IntKind.i64 (Int.ofNat 70)] }) (h := h) (by kernel_rfl) ?_
  exact ⟨rfl, W.ext⟩
theorem bad9 (N : Nat) (a : Option Addr) (c lf m : Nat) (h : Hp) (ck : ∀ h, Ev lf m 5 [.slice a N c] h = some (J 70, h)) : ∃ v h', Ev lf (m + 1) 9 [.slice a N c] h = some (v, h') ∧ v = .tuple #[.slice none 0 0, J 70] ∧ h.Ext h' := by
  refine fnS_ok (Q := fun v h' => v = .tuple #[.slice none 0 0, J 70] ∧ h.Ext h') ?_
  have W := Sto.start h
  refine sy_call 0 (by kernel_rfl) (ck (h)) ?_
  refine ok_go 2 ?_
  refine sy_done 0 (v := Value.tuple { toList := [Value.slice none 0 0, Value.int IntKind.i64 (Int.ofNat 70)] }) (h := h) (by kernel_rfl) ?_
  exact ⟨rfl, W.ext⟩
theorem bad10 (N : Nat) (a : Option Addr) (c lf m : Nat) (h : Hp) (ck : ∀ h, Ev lf m 5 [.slice a N c] h = some (J 70, h)) : ∃ v h', Ev lf (m + 1) 10 [.slice a N c] h = some (v, h') ∧ v = .tuple #[J 0, J 70] ∧ h.Ext h' := by
  refine fnS_ok (Q := fun v h' => v = .tuple #[J 0, J 70] ∧ h.Ext h') ?_
  have W := Sto.start h
  refine sy_call 0 (by kernel_rfl) (ck (h)) ?_
  refine ok_go 2 ?_
  refine sy_done 0 (v := Value.tuple { toList := [Value.int IntKind.i64 (Int.ofNat 0), Value.int IntKind.i64 (Int.ofNat 70)] }) (h := h) (by kernel_rfl) ?_
  exact ⟨rfl, W.ext⟩
theorem bad11 (N : Nat) (a : Option Addr) (c lf m : Nat) (h : Hp) (ck : ∀ h, Ev lf m 5 [.slice a N c] h = some (J 70, h)) : ∃ v h', Ev lf (m + 1) 11 [.slice a N c] h = some (v, h') ∧ v = .tuple #[J 0, .slice none 0 0, J 70] ∧ h.Ext h' := by
  refine fnS_ok (Q := fun v h' => v = .tuple #[J 0, .slice none 0 0, J 70] ∧ h.Ext h') ?_
  have W := Sto.start h
  refine sy_call 0 (by kernel_rfl) (ck (h)) ?_
  refine ok_go 2 ?_
  refine sy_done 0 (v := Value.tuple { toList := [Value.int IntKind.i64 (Int.ofNat 0), Value.slice none 0 0, Value.int IntKind.i64 (Int.ofNat 70)] }) (h := h) (by kernel_rfl) ?_
  exact ⟨rfl, W.ext⟩
theorem bad12 (N : Nat) (a : Option Addr) (c lf m : Nat) (h : Hp) (ck : ∀ h, Ev lf m 5 [.slice a N c] h = some (J 70, h)) : ∃ v h', Ev lf (m + 1) 12 [.slice a N c, J 0] h = some (v, h') ∧ v = .tuple #[J 0, J 70] ∧ h.Ext h' := by
  refine fnS_ok (Q := fun v h' => v = .tuple #[J 0, J 70] ∧ h.Ext h') ?_
  have W := Sto.start h
  refine sy_call 0 (by kernel_rfl) (ck (h)) ?_
  refine ok_go 2 ?_
  refine sy_done 0 (v := Value.tuple { toList := [Value.int IntKind.i64 (Int.ofNat 0), Value.int IntKind.i64 (Int.ofNat 70)] }) (h := h) (by kernel_rfl) ?_
  exact ⟨rfl, W.ext⟩
theorem bad13 (N : Nat) (a : Option Addr) (c lf m : Nat) (h : Hp) (ck : ∀ h, Ev lf m 5 [.slice a N c] h = some (J 70, h)) : ∃ v h', Ev lf (m + 1) 13 [.slice a N c] h = some (v, h') ∧ v = .tuple #[J 0, J 70] ∧ h.Ext h' := by
  refine fnS_ok (Q := fun v h' => v = .tuple #[J 0, J 70] ∧ h.Ext h') ?_
  have W := Sto.start h
  refine sy_call 0 (by kernel_rfl) (ck (h)) ?_
  refine ok_go 2 ?_
  refine sy_done 0 (v := Value.tuple { toList := [Value.int IntKind.i64 (Int.ofNat 0), Value.int IntKind.i64 (Int.ofNat 70)] }) (h := h) (by kernel_rfl) ?_
  exact ⟨rfl, W.ext⟩
theorem bad14 (N : Nat) (a : Option Addr) (c lf m : Nat) (h : Hp) (e : Nat) (he : (Int.ofNat e != 0) = true) (ck : ∀ h, Ev lf m 41 [.slice a N c, J 5] h = some (J e, h)) : ∃ v h', Ev lf (m + 1) 14 [.slice a N c] h = some (v, h') ∧ v = .tuple #[J 0, J e] ∧ h.Ext h' := by
  refine fnS_ok (Q := fun v h' => v = .tuple #[J 0, J e] ∧ h.Ext h') ?_
  have W := Sto.start h
  refine sy_call 0 (by kernel_rfl) (ck (h)) ?_
  refine sy_yes 1 (b := Int.ofNat e != 0) (by kernel_rfl) ?_ ?_
  · exact he
  refine sy_done 0 (v := Value.tuple { toList := [Value.int IntKind.i64 (Int.ofNat 0), Value.int IntKind.i64 (Int.ofNat e)] }) (h := h) (by kernel_rfl) ?_
  exact ⟨rfl, W.ext⟩
theorem bad15 (N : Nat) (a : Option Addr) (c lf m : Nat) (h : Hp) (e : Nat) (he : (Int.ofNat e != 0) = true) (ck : ∀ h, Ev lf m 41 [.slice a N c, J 5] h = some (J e, h)) : ∃ v h', Ev lf (m + 1) 15 [.slice a N c] h = some (v, h') ∧ v = .tuple #[.agg #[J 0, .bool false, .slice none 0 0], J e] ∧ h.Ext h' := by
  refine fnS_ok (Q := fun v h' => v = .tuple #[.agg #[J 0, .bool false, .slice none 0 0], J e] ∧ h.Ext h') ?_
  have W := Sto.start h
  refine ow_new 0 W (AObj.cells [Value.int IntKind.i64 (Int.ofNat 0), Value.bool false, Value.slice none 0 0] 39 false) (fun q => Value.pointer (some { block := q, off := 0 })) (by kernel_rfl) fun g1 ng1 Wg1 => ?_
  have W := Wg1
  refine sy_call 0 (by kernel_rfl) (ck (g1)) ?_
  refine sy_yes 1 (b := Int.ofNat e != 0) (by kernel_rfl) ?_ ?_
  · exact he
  refine ow_storeA (P := Tryz.prog) (T := 39) (v := Value.agg { toList := [Value.int IntKind.i64 (Int.ofNat 0), Value.bool false, Value.slice none 0 0] }) 1 0 W ([Value.int IntKind.i64 (Int.ofNat 0), Value.bool false, Value.slice none 0 0]) rfl rfl rfl (by kernel_rfl) (by first | rfl | (repeat' (first | exact rfl | assumption | apply sc_cons))) (by kernel_rfl) fun k1 nk1 Wk1 => ?_
  have W := Wk1
  refine ow_loadA (P := Tryz.prog) (T := 39) (z := 3) 0 0 W rfl (by kernel_rfl) (by kernel_rfl) rfl (by kernel_rfl) ?_
  refine sy_done 0 (v := Value.tuple { toList := [Value.agg { toList := [Value.int IntKind.i64 (Int.ofNat 0), Value.bool false, Value.slice none 0 0] }, Value.int IntKind.i64 (Int.ofNat e)] }) (h := k1) (by kernel_rfl) ?_
  exact ⟨rfl, W.ext⟩
theorem bad16 (N : Nat) (a : Option Addr) (c lf m : Nat) (h : Hp) (ck : ∀ h, Ev lf m 5 [.slice a N c] h = some (J 70, h)) : ∃ v h', Ev lf (m + 1) 16 [.slice a N c] h = some (v, h') ∧ v = .tuple #[.slice none 0 0, J 70] ∧ h.Ext h' := by
  refine fnS_ok (Q := fun v h' => v = .tuple #[.slice none 0 0, J 70] ∧ h.Ext h') ?_
  have W := Sto.start h
  refine sy_call 0 (by kernel_rfl) (ck (h)) ?_
  refine ok_go 2 ?_
  refine sy_done 0 (v := Value.tuple { toList := [Value.slice none 0 0, Value.int IntKind.i64 (Int.ofNat 70)] }) (h := h) (by kernel_rfl) ?_
  exact ⟨rfl, W.ext⟩
theorem bad17 (N : Nat) (a : Option Addr) (c lf m : Nat) (h : Hp) (e : Nat) (he : (Int.ofNat e != 0) = true) (ck : ∀ h, Ev lf m 41 [.slice a N c, J 4] h = some (J e, h)) : ∃ v h', Ev lf (m + 1) 17 [.slice a N c] h = some (v, h') ∧ v = .tuple #[.slice none 0 0, J e] ∧ h.Ext h' := by
  refine fnS_ok (Q := fun v h' => v = .tuple #[.slice none 0 0, J e] ∧ h.Ext h') ?_
  have W := Sto.start h
  refine sy_call 0 (by kernel_rfl) (ck (h)) ?_
  refine sy_yes 1 (b := Int.ofNat e != 0) (by kernel_rfl) ?_ ?_
  · exact he
  refine sy_done 0 (v := Value.tuple { toList := [Value.slice none 0 0, Value.int IntKind.i64 (Int.ofNat e)] }) (h := h) (by kernel_rfl) ?_
  exact ⟨rfl, W.ext⟩
theorem bad18 (N : Nat) (a : Option Addr) (c lf m : Nat) (h : Hp) (ck : ∀ h, Ev lf m 5 [.slice a N c] h = some (J 70, h)) : ∃ v h', Ev lf (m + 1) 18 [.slice a N c, J 0] h = some (v, h') ∧ v = .tuple #[J 0, J 70] ∧ h.Ext h' := by
  refine fnS_ok (Q := fun v h' => v = .tuple #[J 0, J 70] ∧ h.Ext h') ?_
  have W := Sto.start h
  refine sy_call 0 (by kernel_rfl) (ck (h)) ?_
  refine ok_go 2 ?_
  refine sy_done 0 (v := Value.tuple { toList := [Value.int IntKind.i64 (Int.ofNat 0), Value.int IntKind.i64 (Int.ofNat 70)] }) (h := h) (by kernel_rfl) ?_
  exact ⟨rfl, W.ext⟩
theorem bad19 (N : Nat) (a : Option Addr) (c lf m : Nat) (h : Hp) (ck : ∀ h, Ev lf m 5 [.slice a N c] h = some (J 70, h)) : ∃ v h', Ev lf (m + 1) 19 [.slice a N c] h = some (v, h') ∧ v = .tuple #[J 0, J 0, .bool false, J 70] ∧ h.Ext h' := by
  refine fnS_ok (Q := fun v h' => v = .tuple #[J 0, J 0, .bool false, J 70] ∧ h.Ext h') ?_
  have W := Sto.start h
  refine ow_new 0 W (AObj.cells [Value.slice a N c] 22 false) (fun q => Value.pointer (some { block := q, off := 0 })) (by kernel_rfl) fun g1 ng1 Wg1 => ?_
  have W := Wg1
  refine ow_new 0 W (AObj.cells [Value.int IntKind.i64 (Int.ofNat 0)] 3 false) (fun q => Value.pointer (some { block := q, off := 0 })) (by kernel_rfl) fun g2 ng2 Wg2 => ?_
  have W := Wg2
  refine ow_new 0 W (AObj.cells [Value.int IntKind.i64 (Int.ofNat 0)] 3 false) (fun q => Value.pointer (some { block := q, off := 0 })) (by kernel_rfl) fun g3 ng3 Wg3 => ?_
  have W := Wg3
  refine ow_new 0 W (AObj.cells [Value.bool false] 4 false) (fun q => Value.pointer (some { block := q, off := 0 })) (by kernel_rfl) fun g4 ng4 Wg4 => ?_
  have W := Wg4
  refine ow_new 0 W (AObj.cells [Value.int IntKind.i64 (Int.ofNat 0)] 25 false) (fun q => Value.pointer (some { block := q, off := 0 })) (by kernel_rfl) fun g5 ng5 Wg5 => ?_
  have W := Wg5
  refine ow_load (P := Tryz.prog) (T := 22) (off := 0) 0 4 W rfl rfl (by kernel_rfl) (by kernel_rfl) ?_
  refine sy_call 0 (by kernel_rfl) (ck (g5)) ?_
  refine ow_store (P := Tryz.prog) (T := 3) (off := 0) (v := Value.int IntKind.i64 (Int.ofNat 0)) 2 3 W rfl (Nat.le_of_ble_eq_true (by kernel_rfl)) (by kernel_rfl) (by first | rfl | assumption) (by kernel_rfl) fun k1 nk1 Wk1 => ?_
  have W := Wk1
  refine ow_store (P := Tryz.prog) (T := 3) (off := 0) (v := Value.int IntKind.i64 (Int.ofNat 0)) 0 2 W rfl (Nat.le_of_ble_eq_true (by kernel_rfl)) (by kernel_rfl) (by first | rfl | assumption) (by kernel_rfl) fun k2 nk2 Wk2 => ?_
  have W := Wk2
  refine ow_store (P := Tryz.prog) (T := 4) (off := 0) (v := Value.bool false) 0 1 W rfl (Nat.le_of_ble_eq_true (by kernel_rfl)) (by kernel_rfl) (by first | rfl | assumption) (by kernel_rfl) fun k3 nk3 Wk3 => ?_
  have W := Wk3
  refine ow_store (P := Tryz.prog) (T := 25) (off := 0) (v := Value.int IntKind.i64 (Int.ofNat 70)) 0 0 W rfl (Nat.le_of_ble_eq_true (by kernel_rfl)) (by kernel_rfl) (by first | rfl | assumption) (by kernel_rfl) fun k4 nk4 Wk4 => ?_
  have W := Wk4
  refine ow_load (P := Tryz.prog) (T := 3) (off := 0) 1 3 W rfl rfl (by kernel_rfl) (by kernel_rfl) ?_
  refine ow_load (P := Tryz.prog) (T := 3) (off := 0) 0 2 W rfl rfl (by kernel_rfl) (by kernel_rfl) ?_
  refine ow_load (P := Tryz.prog) (T := 4) (off := 0) 0 1 W rfl rfl (by kernel_rfl) (by kernel_rfl) ?_
  refine ow_load (P := Tryz.prog) (T := 25) (off := 0) 0 0 W rfl rfl (by kernel_rfl) (by kernel_rfl) ?_
  refine sy_done 0 (v := Value.tuple { toList := [Value.int IntKind.i64 (Int.ofNat 0), Value.int IntKind.i64 (Int.ofNat 0), Value.bool false, Value.int IntKind.i64 (Int.ofNat 70)] }) (h := k4) (by kernel_rfl) ?_
  exact ⟨rfl, W.ext⟩
theorem bad20 (N : Nat) (a : Option Addr) (c lf m : Nat) (h : Hp) (e : Nat) (he : (Int.ofNat e != 0) = true) (ck : ∀ h, Ev lf m 41 [.slice a N c, J 4] h = some (J e, h)) : ∃ v h', Ev lf (m + 1) 20 [.slice a N c] h = some (v, h') ∧ v = .tuple #[.slice none 0 0, J e] ∧ h.Ext h' := by
  refine fnS_ok (Q := fun v h' => v = .tuple #[.slice none 0 0, J e] ∧ h.Ext h') ?_
  have W := Sto.start h
  refine ow_new 0 W (AObj.cells [Value.slice a N c] 22 false) (fun q => Value.pointer (some { block := q, off := 0 })) (by kernel_rfl) fun g1 ng1 Wg1 => ?_
  have W := Wg1
  refine ow_load (P := Tryz.prog) (T := 22) (off := 0) 0 0 W rfl rfl (by kernel_rfl) (by kernel_rfl) ?_
  refine sy_call 0 (by kernel_rfl) (ck (g1)) ?_
  refine sy_yes 1 (b := Int.ofNat e != 0) (by kernel_rfl) ?_ ?_
  · exact he
  refine ok_go 1 ?_
  refine sy_done 0 (v := Value.tuple { toList := [Value.slice none 0 0, Value.int IntKind.i64 (Int.ofNat e)] }) (h := g1) (by kernel_rfl) ?_
  exact ⟨rfl, W.ext⟩
theorem bad21 (N : Nat) (a : Option Addr) (c lf m : Nat) (h : Hp) (ck : ∀ h, Ev lf m 5 [.slice a N c] h = some (J 70, h)) : ∃ v h', Ev lf (m + 1) 21 [.slice a N c, J 0, .slice none 0 0] h = some (v, h') ∧ v = .bool false ∧ h.Ext h' := by
  refine fnS_ok (Q := fun v h' => v = .bool false ∧ h.Ext h') ?_
  have W := Sto.start h
  refine sy_call 0 (by kernel_rfl) (ck (h)) ?_
  refine ok_go 10 ?_
  refine sy_done 0 (v := Value.bool false) (h := h) (by kernel_rfl) ?_
  exact ⟨rfl, W.ext⟩
theorem bad22 (N : Nat) (a : Option Addr) (c lf m : Nat) (h : Hp) (z : Int) (ck : ∀ h, Ev lf m 28 [J N] h = some (.tuple #[I z, .bool false], h)) (ck5 : ∀ h, Ev lf m 5 [.slice a N c] h = some (J 70, h)) : ∃ v h', Ev lf (m + 1) 22 [.slice a N c, .agg #[J 0, .bool false, .slice none 0 0]] h = some (v, h') ∧ v = .bool false ∧ h.Ext h' := by
  refine fnS_ok (Q := fun v h' => v = .bool false ∧ h.Ext h') ?_
  have W := Sto.start h
  refine ow_new 0 W (AObj.cells [Value.int IntKind.i64 (Int.ofNat 0), Value.bool false, Value.slice none 0 0] 39 false) (fun q => Value.pointer (some { block := q, off := 0 })) (by kernel_rfl) fun g1 ng1 Wg1 => ?_
  have W := Wg1
  refine sy_call 0 (by kernel_rfl) (ck5 (g1)) ?_
  refine ok_go 6 ?_
  refine sy_done 0 (v := Value.bool false) (h := g1) (by kernel_rfl) ?_
  exact ⟨rfl, W.ext⟩
theorem bad23 (N : Nat) (a : Option Addr) (c lf m : Nat) (h : Hp) (ck : ∀ h, Ev lf m 5 [.slice a N c] h = some (J 70, h)) : ∃ v h', Ev lf (m + 1) 23 [.slice a N c, .slice none 0 0] h = some (v, h') ∧ v = .bool false ∧ h.Ext h' := by
  refine fnS_ok (Q := fun v h' => v = .bool false ∧ h.Ext h') ?_
  have W := Sto.start h
  refine sy_call 0 (by kernel_rfl) (ck (h)) ?_
  refine ok_go 2 ?_
  refine sy_done 0 (v := Value.bool false) (h := h) (by kernel_rfl) ?_
  exact ⟨rfl, W.ext⟩
end Go.Proofs.YtnfboopfpkaeaaaGreatDoor
namespace Go.Proofs.YtnfboopfpkaeaaaGreatDoor
open Go Go.Eng Nim
set_option maxRecDepth 100000
set_option maxHeartbeats 8000000
/-- One number below 64. -/
inductive B64 : Nat → Prop
  | mk (a b c d e f : Bool) : B64 (a.toNat + 2 * b.toNat + 4 * c.toNat + 8 * d.toNat + 16 * e.toNat + 32 * f.toNat)
theorem b64 {z : Nat} (h : z < 64) : B64 z := by
  have e : z = (z.testBit 0).toNat + 2 * (z.testBit 1).toNat + 4 * (z.testBit 2).toNat + 8 * (z.testBit 3).toNat + 16 * (z.testBit 4).toNat + 32 * (z.testBit 5).toNat := by
    simp only [Nat.toNat_testBit]
    omega
  rw [e]
  exact .mk _ _ _ _ _ _
/-- A length that is no table's: as the program and as the reference say. -/
def NoLen (N : Nat) : Prop := ∀ m h, Ev 100000 (m + 20) 28 [J N] h = some (.tuple #[I (if N = 0 then -1 else (Nat.log2 N : Int)), .bool false], h) ∧ Ev 100000 (m + 20) 27 [J N] h = some (I (-1), h)
theorem len_all {N : Nat} (hN : N ≤ 130) : (∃ n, n ≤ 6 ∧ N = 2 ^ n) ∨ NoLen N := by
  rcases Nat.lt_or_ge N 64 with h | h
  · obtain ⟨a, b, c, d, e, f⟩ := b64 h
    cases a <;> cases b <;> cases c <;> cases d <;> cases e <;> cases f <;> first | exact .inl ⟨0, by decide, rfl⟩ | exact .inl ⟨1, by decide, rfl⟩ | exact .inl ⟨2, by decide, rfl⟩ | exact .inl ⟨3, by decide, rfl⟩ | exact .inl ⟨4, by decide, rfl⟩ | exact .inl ⟨5, by decide, rfl⟩ | exact .inr fun m h => ⟨by kernel_rfl, by kernel_rfl⟩
  · rcases Nat.lt_or_ge N 128 with h2 | h2
    · obtain ⟨z, rfl⟩ : ∃ z, N = 64 + z := ⟨N - 64, by omega⟩
      obtain ⟨a, b, c, d, e, f⟩ := b64 (show z < 64 by omega)
      cases a <;> cases b <;> cases c <;> cases d <;> cases e <;> cases f <;> first | exact .inl ⟨6, by decide, rfl⟩ | exact .inr fun m h => ⟨by kernel_rfl, by kernel_rfl⟩
    · rcases (by omega : N = 128 ∨ N = 129 ∨ N = 130) with rfl | rfl | rfl <;> exact .inr fun m h => ⟨by kernel_rfl, by kernel_rfl⟩
theorem rbits_of (n : Nat) (hn : n ≤ 6) (m : Nat) (h : Hp) : Ev 100000 (m + 20) 27 [J (2 ^ n)] h = some (J n, h) := by
  rcases (by omega : n = 0 ∨ n = 1 ∨ n = 2 ∨ n = 3 ∨ n = 4 ∨ n = 5 ∨ n = 6) with rfl | rfl | rfl | rfl | rfl | rfl | rfl <;> kernel_rfl
theorem rcheck_of (N n : Nat) (a : Option Addr) (c lf m : Nat) (h : Hp) (bt : ∀ h, Ev lf m 27 [J N] h = some (J n, h)) : Ev lf (m + 1) 4 [.slice a N c] h = some (J 0, h) := by
  refine fn_eq ?_
  refine sy_call 1 (by kernel_rfl) (bt (h)) ?_
  refine sy_done 2 (v := Value.int IntKind.i64 (Int.ofNat 0)) (h := h) (by kernel_rfl) ?_
  exact ⟨rfl, rfl⟩
theorem rbad_of (N : Nat) (a : Option Addr) (c lf m : Nat) (h : Hp) (bt : ∀ h, Ev lf m 27 [J N] h = some (I (-1), h)) : Ev lf (m + 1) 4 [.slice a N c] h = some (J 70, h) := by
  refine fn_eq ?_
  refine sy_call 1 (by kernel_rfl) (bt (h)) ?_
  refine sy_done 2 (v := Value.int IntKind.i64 (Int.ofNat 70)) (h := h) (by kernel_rfl) ?_
  exact ⟨rfl, rfl⟩
theorem bad_of (N : Nat) (z : Int) (a : Option Addr) (c lf m : Nat) (h : Hp) (sz : ∀ h, Ev lf m 28 [J N] h = some (.tuple #[I z, .bool false], h)) : Ev lf (m + 1) 5 [.slice a N c] h = some (J 70, h) := by
  refine fn_eq ?_
  refine sy_call 1 (by kernel_rfl) (sz (h)) ?_
  refine sy_done 4 (v := Value.int IntKind.i64 (Int.ofNat 70)) (h := h) (by kernel_rfl) ?_
  exact ⟨rfl, rfl⟩
theorem long5 (N : Nat) (hN : 32 < N) (a : Option Addr) (c lf m : Nat) (h : Hp) (ck : ∀ h, Ev lf m 5 [.slice a N c] h = some (J 0, h)) : Ev lf (m + 1) 41 [.slice a N c, J 5] h = some (J 2, h) := by
  refine fn_eq ?_
  refine sy_call 0 (by kernel_rfl) (ck (h)) ?_
  refine ok_go 6 ?_
  refine sy_yes 0 (b := decide (Int.ofNat N > 32)) (by kernel_rfl) (decide_eq_true (by show ((32 : Int) < (N : Int)); omega)) ?_
  refine sy_done 0 (v := Value.int IntKind.i64 (Int.ofNat 2)) (h := h) (by kernel_rfl) ?_
  exact ⟨rfl, rfl⟩
theorem long4 (N : Nat) (hN : 16 < N) (a : Option Addr) (c lf m : Nat) (h : Hp) (ck : ∀ h, Ev lf m 5 [.slice a N c] h = some (J 0, h)) : Ev lf (m + 1) 41 [.slice a N c, J 4] h = some (J 2, h) := by
  refine fn_eq ?_
  refine sy_call 0 (by kernel_rfl) (ck (h)) ?_
  refine ok_go 6 ?_
  refine sy_yes 0 (b := decide (Int.ofNat N > 16)) (by kernel_rfl) (decide_eq_true (by show ((16 : Int) < (N : Int)); omega)) ?_
  refine sy_done 0 (v := Value.int IntKind.i64 (Int.ofNat 2)) (h := h) (by kernel_rfl) ?_
  exact ⟨rfl, rfl⟩
theorem bad41 (N k : Nat) (a : Option Addr) (c lf m : Nat) (h : Hp) (ck : ∀ h, Ev lf m 5 [.slice a N c] h = some (J 70, h)) : Ev lf (m + 1) 41 [.slice a N c, J k] h = some (J 70, h) := by
  refine fn_eq ?_
  refine sy_call 0 (by kernel_rfl) (ck (h)) ?_
  refine sy_done 2 (v := Value.int IntKind.i64 (Int.ofNat 70)) (h := h) (by kernel_rfl) ?_
  exact ⟨rfl, rfl⟩
end Go.Proofs.YtnfboopfpkaeaaaGreatDoor
namespace Go.Proofs.YtnfboopfpkaeaaaGreatDoor
open Go Go.Eng Nim
set_option maxRecDepth 100000
set_option maxHeartbeats 8000000
/-- What all calls answer at a list that is no table. -/
structure Bad (lf m N : Nat) : Prop where
  c4 : ∀ a c h, Ev lf m 4 [.slice a N c] h = some (J 70, h)
  c5 : ∀ a c h, Ev lf m 5 [.slice a N c] h = some (J 70, h)
  c6 : ∀ a c h, ∃ v h', Ev lf m 6 [.slice a N c] h = some (v, h') ∧ v = .tuple #[.slice none 0 0, J 70] ∧ h.Ext h'
  c7 : ∀ a c h, ∃ v h', Ev lf m 7 [.slice a N c] h = some (v, h') ∧ v = .tuple #[.slice none 0 0, J 70] ∧ h.Ext h'
  c8 : ∀ a c h, ∃ v h', Ev lf m 8 [.slice a N c] h = some (v, h') ∧ v = .tuple #[J 0, J 70] ∧ h.Ext h'
  c9 : ∀ a c h, ∃ v h', Ev lf m 9 [.slice a N c] h = some (v, h') ∧ v = .tuple #[.slice none 0 0, J 70] ∧ h.Ext h'
  c10 : ∀ a c h, ∃ v h', Ev lf m 10 [.slice a N c] h = some (v, h') ∧ v = .tuple #[J 0, J 70] ∧ h.Ext h'
  c11 : ∀ a c h, ∃ v h', Ev lf m 11 [.slice a N c] h = some (v, h') ∧ v = .tuple #[J 0, .slice none 0 0, J 70] ∧ h.Ext h'
  c12 : ∀ a c h, ∃ v h', Ev lf m 12 [.slice a N c, J 0] h = some (v, h') ∧ v = .tuple #[J 0, J 70] ∧ h.Ext h'
  c13 : ∀ a c h, ∃ v h', Ev lf m 13 [.slice a N c] h = some (v, h') ∧ v = .tuple #[J 0, J 70] ∧ h.Ext h'
  c14 : ∀ a c h, ∃ v h', Ev lf m 14 [.slice a N c] h = some (v, h') ∧ v = .tuple #[J 0, J 70] ∧ h.Ext h'
  c15 : ∀ a c h, ∃ v h', Ev lf m 15 [.slice a N c] h = some (v, h') ∧ v = .tuple #[.agg #[J 0, .bool false, .slice none 0 0], J 70] ∧ h.Ext h'
  c16 : ∀ a c h, ∃ v h', Ev lf m 16 [.slice a N c] h = some (v, h') ∧ v = .tuple #[.slice none 0 0, J 70] ∧ h.Ext h'
  c17 : ∀ a c h, ∃ v h', Ev lf m 17 [.slice a N c] h = some (v, h') ∧ v = .tuple #[.slice none 0 0, J 70] ∧ h.Ext h'
  c18 : ∀ a c h, ∃ v h', Ev lf m 18 [.slice a N c, J 0] h = some (v, h') ∧ v = .tuple #[J 0, J 70] ∧ h.Ext h'
  c19 : ∀ a c h, ∃ v h', Ev lf m 19 [.slice a N c] h = some (v, h') ∧ v = .tuple #[J 0, J 0, .bool false, J 70] ∧ h.Ext h'
  c20 : ∀ a c h, ∃ v h', Ev lf m 20 [.slice a N c] h = some (v, h') ∧ v = .tuple #[.slice none 0 0, J 70] ∧ h.Ext h'
  c21 : ∀ a c h, ∃ v h', Ev lf m 21 [.slice a N c, J 0, .slice none 0 0] h = some (v, h') ∧ v = .bool false ∧ h.Ext h'
  c22 : ∀ a c h, ∃ v h', Ev lf m 22 [.slice a N c, .agg #[J 0, .bool false, .slice none 0 0]] h = some (v, h') ∧ v = .bool false ∧ h.Ext h'
  c23 : ∀ a c h, ∃ v h', Ev lf m 23 [.slice a N c, .slice none 0 0] h = some (v, h') ∧ v = .bool false ∧ h.Ext h'
/-- What the law calls. -/
structure UpK (m : Nat) : Prop where
  bt : ∀ z, ∃ k, k ≤ 6 ∧ ∀ h, Ev 100000 m 24 [I z, J 6] h = some (J k, h)
  tb : ∀ x n kind h, n ≤ 6 → ∃ y h', Ev 100000 m 25 [.int .u64 x, J n, I kind] h = some (y, h') ∧ ∃ b f, y = .slice (some ⟨b, 0, none⟩) (2 ^ n) (2 * 2 ^ n) ∧ h.next ≤ b ∧ h.Ext h' ∧ ArB b (2 ^ n) f h'
  dp : ∀ f n b c h, n ≤ 6 → ArB b (2 ^ n) f h → ∃ v h', Ev 100000 m 14 [.slice (some ⟨b, 0, none⟩) (2 ^ n) c] h = some (v, h') ∧ (∃ d, v = .tuple #[J d, J (if n ≤ 5 then 0 else 2)]) ∧ h.Ext h'
  de : ∀ f n b c h, n ≤ 6 → ArB b (2 ^ n) f h → ∃ v h', Ev 100000 m 15 [.slice (some ⟨b, 0, none⟩) (2 ^ n) c] h = some (v, h') ∧ (∃ x y a l c, v = .tuple #[.agg #[I x, .bool y, .slice a l c], J (if n ≤ 5 then 0 else 2)] ∧ (n ≤ 5 ∨ l = 0)) ∧ h.Ext h'
  co : ∀ f n b c h, n ≤ 6 → ArB b (2 ^ n) f h → ∃ v h', Ev 100000 m 17 [.slice (some ⟨b, 0, none⟩) (2 ^ n) c] h = some (v, h') ∧ (∃ a l c, v = .tuple #[.slice a l c, J (if n ≤ 4 then 0 else 2)] ∧ (n ≤ 4 ∨ l = 0)) ∧ ArB b (2 ^ n) f h' ∧ Exc [b] h h'
  tw : ∀ f n b c h, n ≤ 6 → ArB b (2 ^ n) f h → ∃ v h', Ev 100000 m 20 [.slice (some ⟨b, 0, none⟩) (2 ^ n) c] h = some (v, h') ∧ (∃ a l c, v = .tuple #[.slice a l c, J (if n ≤ 4 then 0 else 2)] ∧ (n ≤ 4 ∨ l = 0)) ∧ h.Ext h'
  aw : ∀ h, Ev 100000 m 26 [] h = some (.bool true, h)
  ck : ∀ N, N ≤ 130 → ((∀ a c h, Ev 100000 m 4 [.slice a N c] h = some (J 0, h)) ∧ (∀ a c h, Ev 100000 m 5 [.slice a N c] h = some (J 0, h))) ∨ Bad 100000 m N
theorem badK (k N : Nat) (H : NoLen N) : Bad 100000 (k + 400) N where
  c4 := fun a c h => rbad_of N a c 100000 (k + 399) h fun h => (H (k + 379) h).2
  c5 := fun a c h => bad_of N _ a c 100000 (k + 399) h fun h => (H (k + 379) h).1
  c6 := fun a c h => bad6 N a c 100000 (k + 399) h (fun h => bad_of N _ a c 100000 (k + 398) h fun h => (H (k + 378) h).1)
  c7 := fun a c h => bad7 N a c 100000 (k + 399) h (fun h => bad_of N _ a c 100000 (k + 398) h fun h => (H (k + 378) h).1)
  c8 := fun a c h => bad8 N a c 100000 (k + 399) h (fun h => bad_of N _ a c 100000 (k + 398) h fun h => (H (k + 378) h).1)
  c9 := fun a c h => bad9 N a c 100000 (k + 399) h (fun h => bad_of N _ a c 100000 (k + 398) h fun h => (H (k + 378) h).1)
  c10 := fun a c h => bad10 N a c 100000 (k + 399) h (fun h => bad_of N _ a c 100000 (k + 398) h fun h => (H (k + 378) h).1)
  c11 := fun a c h => bad11 N a c 100000 (k + 399) h (fun h => bad_of N _ a c 100000 (k + 398) h fun h => (H (k + 378) h).1)
  c12 := fun a c h => bad12 N a c 100000 (k + 399) h (fun h => bad_of N _ a c 100000 (k + 398) h fun h => (H (k + 378) h).1)
  c13 := fun a c h => bad13 N a c 100000 (k + 399) h (fun h => bad_of N _ a c 100000 (k + 398) h fun h => (H (k + 378) h).1)
  c14 := fun a c h => bad14 N a c 100000 (k + 399) h 70 rfl (fun h => bad41 N 5 a c 100000 (k + 398) h fun h => bad_of N _ a c 100000 (k + 397) h fun h => (H (k + 377) h).1)
  c15 := fun a c h => bad15 N a c 100000 (k + 399) h 70 rfl (fun h => bad41 N 5 a c 100000 (k + 398) h fun h => bad_of N _ a c 100000 (k + 397) h fun h => (H (k + 377) h).1)
  c16 := fun a c h => bad16 N a c 100000 (k + 399) h (fun h => bad_of N _ a c 100000 (k + 398) h fun h => (H (k + 378) h).1)
  c17 := fun a c h => bad17 N a c 100000 (k + 399) h 70 rfl (fun h => bad41 N 4 a c 100000 (k + 398) h fun h => bad_of N _ a c 100000 (k + 397) h fun h => (H (k + 377) h).1)
  c18 := fun a c h => bad18 N a c 100000 (k + 399) h (fun h => bad_of N _ a c 100000 (k + 398) h fun h => (H (k + 378) h).1)
  c19 := fun a c h => bad19 N a c 100000 (k + 399) h (fun h => bad_of N _ a c 100000 (k + 398) h fun h => (H (k + 378) h).1)
  c20 := fun a c h => bad20 N a c 100000 (k + 399) h 70 rfl (fun h => bad41 N 4 a c 100000 (k + 398) h fun h => bad_of N _ a c 100000 (k + 397) h fun h => (H (k + 377) h).1)
  c21 := fun a c h => bad21 N a c 100000 (k + 399) h (fun h => bad_of N _ a c 100000 (k + 398) h fun h => (H (k + 378) h).1)
  c22 := fun a c h => bad22 N a c 100000 (k + 399) h _ (fun h => (H (k + 379) h).1) (fun h => bad_of N _ a c 100000 (k + 398) h fun h => (H (k + 378) h).1)
  c23 := fun a c h => bad23 N a c 100000 (k + 399) h (fun h => bad_of N _ a c 100000 (k + 398) h fun h => (H (k + 378) h).1)
theorem upK (k : Nat) : UpK (k + 400) where
  bt := fun z => by
    obtain ⟨j, hj, e⟩ := bits_of z
    exact ⟨j, hj, fun h => e 100000 (k + 399) h⟩
  tb := fun x n kind h hn => table_of x n hn kind 100000 (k + 399) (by decide) h
  dp := fun f n b c h hn A => by
    rcases Nat.lt_or_ge 5 n with h6 | h5
    · obtain rfl : n = 6 := by omega
      obtain ⟨v, h', e, rfl, X⟩ := bad14 (2 ^ 6) (some ⟨b, 0, none⟩) c 100000 (k + 399) h 2 rfl (fun h => long5 (2 ^ 6) (by decide) _ c 100000 (k + 398) h fun h => check_of 6 _ c 100000 (k + 397) h fun h => size_of 6 (by decide) (k + 387) h)
      exact ⟨_, h', e, ⟨0, rfl⟩, X⟩
    · have hp0 := Nat.two_pow_pos n
      have hp32 : 2 ^ n ≤ 32 := Nat.pow_le_pow_right (n := 2) (by decide) h5
      obtain ⟨v, h', e, rfl, X⟩ := depth_of f n 100000 (k + 399) b c h A (fun h => few_of n h5 100000 (k + 398) (some ⟨b, 0, none⟩) c h (check_of n (some ⟨b, 0, none⟩) c 100000 (k + 397) h fun h => size_of n (by omega) (k + 387) h))
        (fun bd mid => by
          have e := least_all f n h5 100000 bd b c mid (by decide) 32 (k + 302) 0 0 hp0 hp0 (by omega)
          rwa [show 3 * 32 + (k + 302) + 1 = k + 399 by omega] at e)
      exact ⟨_, h', e, ⟨_, by rw [if_pos h5]⟩, X⟩
  de := fun f n b c h hn A => by
    rcases Nat.lt_or_ge 5 n with h6 | h5
    · obtain rfl : n = 6 := by omega
      obtain ⟨v, h', e, rfl, X⟩ := bad15 (2 ^ 6) (some ⟨b, 0, none⟩) c 100000 (k + 399) h 2 rfl (fun h => long5 (2 ^ 6) (by decide) _ c 100000 (k + 398) h fun h => check_of 6 _ c 100000 (k + 397) h fun h => size_of 6 (by decide) (k + 387) h)
      exact ⟨_, h', e, ⟨0, false, none, 0, 0, rfl, .inr rfl⟩, X⟩
    · have hp0 := Nat.two_pow_pos n
      have hp32 : 2 ^ n ≤ 32 := Nat.pow_le_pow_right (n := 2) (by decide) h5
      have hz : (zrs n 0).length ≤ n := by
        have := List.length_filter_le (fun i => 0 &&& 2 ^ i == 0) (List.range n)
        rw [List.length_range] at this
        exact this
      obtain ⟨y, h', L, e, W, At⟩ := decide_of f n (k + 398) h b c (n + 1) (fun h => few_of n h5 100000 (k + 398) (some ⟨b, 0, none⟩) c h (check_of n (some ⟨b, 0, none⟩) c 100000 (k + 397) h fun h => size_of n (by omega) (k + 387) h))
        fun bd mid bD bG => by
          have e := grow_all f n h5 h b c bd mid bD bG A (k + 295 - 3 * n) n 0 0 hp0 hp0 hz
          rwa [show 3 * n + (k + 295 - 3 * n) + 103 = k + 398 by omega] at e
      obtain ⟨a, cc, rfl⟩ := At.shape
      exact ⟨_, h', e, ⟨_, _, a, _, cc, by rw [if_pos h5], .inl h5⟩, W.ext⟩
  co := fun f n b c h hn A => by
    rcases Nat.lt_or_ge 4 n with h6 | h4
    · have hp : 2 ^ 5 ≤ 2 ^ n := Nat.pow_le_pow_right (by decide) h6
      obtain ⟨v, h', e, rfl, X⟩ := bad17 (2 ^ n) (some ⟨b, 0, none⟩) c 100000 (k + 399) h 2 rfl (fun h => long4 (2 ^ n) (by omega) _ c 100000 (k + 398) h fun h => check_of n _ c 100000 (k + 397) h fun h => size_of n hn (k + 387) h)
      exact ⟨_, h', e, ⟨none, 0, 0, by rw [if_neg (by omega)], .inr rfl⟩, A.ext X, ⟨X.next, fun j hj _ => X.get j hj⟩⟩
    · have hp16 : 2 ^ n ≤ 16 := Nat.pow_le_pow_right (n := 2) (by decide) h4
      have hp0 := Nat.two_pow_pos n
      obtain ⟨n0, res, hn0, hres, hmin, hlen, hnd, hin, hcov⟩ := srch_least f n h4
      have hL := accP_len (prm f (2 ^ n) n) (2 ^ n) (by omega)
      obtain ⟨x, h', e, E, A', v, qs, rfl, P, S, K⟩ := cover_of f (2 ^ n) 100000 (k + 399) (by decide) b c h A _ n0 (by omega) res hres (by omega) hmin
        (few4_of n h4 100000 (k + 398) (some ⟨b, 0, none⟩) c h (check_of n (some ⟨b, 0, none⟩) c 100000 (k + 397) h fun h => size_of n (by omega) (k + 387) h))
        (fun bd h A D => primes_of f n (by omega) 100000 (k + 392) b c bd (by decide) h A D fun F mm v h hF => io_of f n (by omega) b c bd F (by omega) mm v h)
        (fun j bo l v0 h hj A K hbo hg => by
          have e := cov_all f (2 ^ n) (by omega) b c bo l _ (by omega) j (k + 369 - 4 * j) [] 0 (.slice none 0 0) v0 h (by simpa using hj) rfl A K (fun p hp => by cases hp) hbo hg
          rwa [show 4 * j + (k + 369 - 4 * j) + 30 = k + 399 by omega] at e)
        (fun l ps h hps O => by
          obtain ⟨v, h', e, O', X, _⟩ := pairs_of 100000 (k + 398) (by decide) h l ps hps O
          exact ⟨v, h', e, O', X⟩)
      obtain ⟨i, rfl, _⟩ := K
      cases hq : qs.length with
      | zero => exact ⟨_, h', e, ⟨none, 0, 0, by rw [if_pos h4, hq]; rfl, .inl h4⟩, A', E⟩
      | succ j => exact ⟨_, h', e, ⟨_, _, _, by rw [if_pos h4, hq]; rfl, .inl h4⟩, A', E⟩
  tw := fun f n b c h hn A => by
    rcases Nat.lt_or_ge 4 n with h6 | h4
    · have hp : 2 ^ 5 ≤ 2 ^ n := Nat.pow_le_pow_right (by decide) h6
      obtain ⟨v, h', e, rfl, X⟩ := bad20 (2 ^ n) (some ⟨b, 0, none⟩) c 100000 (k + 399) h 2 rfl (fun h => long4 (2 ^ n) (by omega) _ c 100000 (k + 398) h fun h => check_of n _ c 100000 (k + 397) h fun h => size_of n hn (k + 387) h)
      exact ⟨_, h', e, ⟨none, 0, 0, by rw [if_neg (by omega)], .inr rfl⟩, X⟩
    · have hp16 : 2 ^ n ≤ 16 := Nat.pow_le_pow_right (n := 2) (by decide) h4
      have e := twin_of f n h4 100000 (k + 395 - n) (by decide) b c h A
        (fun h => by
          have e := few4_of n h4 100000 (k + 398) (some ⟨b, 0, none⟩) c h (check_of n (some ⟨b, 0, none⟩) c 100000 (k + 397) h fun h => size_of n (by omega) (k + 387) h)
          rwa [show k + 398 + 1 = k + 395 - n + n + 4 by omega] at e)
        (fun h => by
          have e := size_of n (by omega) (k + 389) h
          rwa [show k + 389 + 10 = k + 395 - n + n + 4 by omega] at e)
        (fun v b c j h A => cloneB_of v (2 ^ n) 100000 j b c (Nat.two_pow_pos n) (by omega) h A)
        (fun b1 c1 b2 c2 v w h A B => comp_of 100000 (k + 395 - n) (2 ^ n) (by decide) hp16 b1 c1 b2 c2 v w h A B fun a b h => by
          have e := less2_of a b (k + 383 - n) h
          rwa [show k + 383 - n + 12 = k + 395 - n by omega] at e)
      rw [show k + 395 - n + n + 5 = k + 400 by omega] at e
      obtain ⟨v, h', e, b', cb, rfl, _, X, _⟩ := e
      exact ⟨_, h', e, ⟨_, _, _, by rw [if_pos h4], .inl h4⟩, X⟩
  aw := fun h => rfl
  ck := fun N hN => by
    rcases len_all hN with ⟨n, hn, rfl⟩ | H
    · exact .inl ⟨fun a c h => rcheck_of (2 ^ n) n a c 100000 (k + 399) h fun h => rbits_of n hn (k + 379) h, fun a c h => check_of n a c 100000 (k + 399) h fun h => size_of n hn (k + 389) h⟩
    · exact .inr (badK k N H)
end Go.Proofs.YtnfboopfpkaeaaaGreatDoor
namespace Go.Proofs.YtnfboopfpkaeaaaGreatDoor
open Go Go.Eng Nim
set_option maxRecDepth 100000
set_option maxHeartbeats 8000000
theorem sy_any {Q : Value → Hp → Prop} (n : Nat) {t : SA} {p : Value → Prop} {h' : Hp} (he : ∃ v, p v ∧ askR (goS n t) = some (v, h')) (hk : ∀ v, p v → Ok Q (askK (goS n t) v h')) : Ok Q t := by
  obtain ⟨v, hp, e⟩ := he
  exact ok_go n (ok_ask e (hk v hp))
theorem sto_exc {h H H' : Hp} {l : List (Nat × AObj)} {b : Nat} {o : AObj} (W : Sto h H l) (X : Exc [b] H H') (hb : b < h.next) (hg : H'.get b = some o) : Sto (h.put b o) H' l := by
  refine ⟨⟨Nat.le_trans W.ext.next X.next, fun j hj => ?_⟩, fun p hp => ?_, W.nd⟩
  · have hj : j < h.next := hj
    have hn := W.ext.next
    by_cases he : j = b
    · subst he; rw [hg]; exact (get_put h j o).symm
    · rw [X.get j (by omega) (by simpa using he), Hp.get_put_ne he]; exact W.ext.get j hj
  · obtain ⟨h1, h2, h3⟩ := W.all p hp
    have hn := X.next
    exact ⟨h1, by omega, by rw [X.get p.1 h2 (by simp; omega)]; exact h3⟩
theorem s3 (x a0 : Int) (w : List Bool) (hw : w.length < 2 ^ 63) (va : Option Addr) (vc m : Nat) (U : UpK m) (h : Hp) (V : Rds h (.slice va w.length vc) (w.map Value.bool))
    (cut : (va = none ∧ w = [] ∧ vc = 0) ∨ ∃ a, va = some a ∧ ∀ K, K ≤ w.length → ∃ y, sliceOp Tryz.prog 22 (.slice (some a) w.length vc) none (some (J K)) none = some y ∧ Rds h y ((w.take K).map Value.bool)) :
    ∃ H, Ev 100000 (m + 1) 3 [.slice va w.length vc, .int .u64 x, I a0] h = some (.bool true, H) := by
  obtain ⟨n, hn, bt⟩ := U.bt a0
  refine fn_val ?_
  have hK : (if (130 : Int) < Int.ofNat w.length then 130 else Int.ofNat w.length) = Int.ofNat (min w.length 130) := by
    show (if (130 : Int) < (w.length : Int) then 130 else (w.length : Int)) = ((min w.length 130 : Nat) : Int)
    split <;> omega
  have hKw : min w.length 130 ≤ w.length := Nat.min_le_left _ _
  have hK10 : min w.length 130 ≤ 130 := Nat.min_le_right _ _
  refine ok_go 2 ?_
  refine sy_any 0 (p := fun y => Rds h y ((w.take (min w.length 130)).map Value.bool)) (h' := h) ?_ ?_
  · rcases cut with ⟨rfl, rfl, rfl⟩ | ⟨a, rfl, cut⟩
    · exact ⟨.slice none 0 0, .inl ⟨⟨_, rfl⟩, rfl⟩, by kernel_rfl⟩
    · obtain ⟨y, ey, Y⟩ := cut _ hKw
      refine ⟨y, Y, (by kernel_rfl : _ = (sliceOp Tryz.prog 22 (.slice (some a) w.length vc) none (some (.int .i64 (if (130 : Int) < Int.ofNat w.length then 130 else Int.ofNat w.length))) none).map (·, h)).trans ?_⟩
      rw [hK, ey]
      rfl
  generalize min w.length 130 = KK at hK10 hKw
  intro y Y
  obtain ⟨ya, yc, rfl⟩ := Y.shape
  obtain ⟨l0, h1, e1, O1, X1, _⟩ := appendNew slB Y (by rw [List.all_eq_true]; intro v hv; obtain ⟨z, _, rfl⟩ := List.mem_map.1 hv; rfl) (by rw [List.length_map, List.length_take]; omega)
  refine ok_go 0 ?_
  refine sy_call 0 (by kernel_rfl) e1 ?_
  obtain ⟨oa, oc, rfl⟩ := O1.shape
  have hN : ((w.take KK).map Value.bool).length ≤ 130 := by rw [List.length_map, List.length_take]; omega
  generalize ((w.take KK).map Value.bool).length = N at hN
  have W := Sto.start h1
  have tb := U.tb
  have dp := U.dp
  have de := U.de
  have co := U.co
  have tw := U.tw
  have aw := U.aw
  rcases U.ck N hN with ⟨c4, c5⟩ | B
  · skip
    refine sy_call 0 (by kernel_rfl) (c4 (oa) (oc) (h1)) ?_
    refine sy_call 0 (by kernel_rfl) (c5 (oa) (oc) (h1)) ?_
    refine ok_go 4 ?_
    refine sy_call 0 (by kernel_rfl) (bt (h1)) ?_
    refine ok_go 1 ?_
    obtain ⟨y31, q31, ec31, rc31⟩ := tb (x) (n) (IntKind.wrap IntKind.i64 (Int.tdiv a0 7)) (h1) (by first | assumption | omega | exact rfl)
    refine sy_call 0 (by kernel_rfl) ec31 ?_
    obtain ⟨b, f, rfl, hb, X, A⟩ := rc31
    have W := W.call X
    obtain ⟨y32, q32, ec32, rc32⟩ := dp (f) (n) (b) (2 * 2 ^ n) (q31) (by first | assumption | omega | exact rfl) (by first | assumption | omega | exact rfl)
    refine sy_call 0 (by kernel_rfl) ec32 ?_
    obtain ⟨⟨d, rfl⟩, X⟩ := rc32
    have A := A.ext X
    have W := W.call X
    refine ok_go 2 ?_
    obtain ⟨y33, q33, ec33, rc33⟩ := de (f) (n) (b) (2 * 2 ^ n) (q32) (by first | assumption | omega | exact rfl) (by first | assumption | omega | exact rfl)
    refine sy_call 0 (by kernel_rfl) ec33 ?_
    obtain ⟨⟨tx, ty, ta, tl, tc, rfl, htl⟩, X⟩ := rc33
    have A := A.ext X
    have W := W.call X
    have nb := A.lt
    have V := Sto.start q33
    refine ow_new 2 V (AObj.cells [Value.int IntKind.i64 (Int.ofNat 0), Value.bool false, Value.slice none 0 0] 39 false) (fun q => Value.pointer (some { block := q, off := 0 })) (by kernel_rfl) fun ud1 nud1 Vud1 => ?_
    have V := Vud1
    refine ow_storeA (P := Tryz.prog) (T := 39) (v := Value.agg { toList := [Value.int IntKind.i64 tx, Value.bool ty, Value.slice ta tl tc] }) 0 0 V ([Value.int IntKind.i64 tx, Value.bool ty, Value.slice ta tl tc]) rfl rfl rfl (by kernel_rfl) (by first | rfl | (repeat' (first | exact rfl | assumption | apply sc_cons))) (by kernel_rfl) fun ud2 nud2 Vud2 => ?_
    have V := Vud2
    have A := A.ext V.ext
    obtain ⟨y34, q34, ec34, rc34⟩ := co (f) (n) (b) (2 * 2 ^ n) (ud2) (by first | assumption | omega | exact rfl) (by first | assumption | omega | exact rfl)
    refine sy_call 0 (by kernel_rfl) ec34 ?_
    obtain ⟨⟨la, ll, lc, rfl, hll⟩, A, X⟩ := rc34
    obtain ⟨ob, eb⟩ := A.get
    have V := sto_exc V X nb eb
    refine ok_go 2 ?_
    obtain ⟨y35, q35, ec35, rc35⟩ := tw (f) (n) (b) (2 * 2 ^ n) (q34) (by first | assumption | omega | exact rfl) (by first | assumption | omega | exact rfl)
    refine sy_call 0 (by kernel_rfl) ec35 ?_
    obtain ⟨⟨wa, wl, wc, rfl, hwl⟩, X⟩ := rc35
    have V := V.call X
    rcases (by omega : n = 0 ∨ n = 1 ∨ n = 2 ∨ n = 3 ∨ n = 4 ∨ n = 5 ∨ n = 6) with rfl | rfl | rfl | rfl | rfl | rfl | rfl
    · refine ok_go 57 ?_
      refine sy_call 0 (by kernel_rfl) (aw (q35)) ?_
      refine sy_done 1 (v := Value.bool true) (h := q35) (by kernel_rfl) ?_
      rfl
    · refine ok_go 57 ?_
      refine sy_call 0 (by kernel_rfl) (aw (q35)) ?_
      refine sy_done 1 (v := Value.bool true) (h := q35) (by kernel_rfl) ?_
      rfl
    · refine ok_go 57 ?_
      refine sy_call 0 (by kernel_rfl) (aw (q35)) ?_
      refine sy_done 1 (v := Value.bool true) (h := q35) (by kernel_rfl) ?_
      rfl
    · refine ok_go 57 ?_
      refine sy_call 0 (by kernel_rfl) (aw (q35)) ?_
      refine sy_done 1 (v := Value.bool true) (h := q35) (by kernel_rfl) ?_
      rfl
    · refine ok_go 57 ?_
      refine sy_call 0 (by kernel_rfl) (aw (q35)) ?_
      refine sy_done 1 (v := Value.bool true) (h := q35) (by kernel_rfl) ?_
      rfl
    · obtain rfl : ll = 0 := hll.resolve_left (by decide)
      obtain rfl : wl = 0 := hwl.resolve_left (by decide)
      refine ok_go 61 ?_
      refine sy_call 0 (by kernel_rfl) (aw (q35)) ?_
      refine sy_done 1 (v := Value.bool true) (h := q35) (by kernel_rfl) ?_
      rfl
    · obtain rfl : ll = 0 := hll.resolve_left (by decide)
      obtain rfl : wl = 0 := hwl.resolve_left (by decide)
      obtain rfl : tl = 0 := htl.resolve_left (by decide)
      refine ow_load (P := Tryz.prog) (T := 37) (off := 2) 39 0 V rfl rfl (by kernel_rfl) (by kernel_rfl) ?_
      refine ok_go 25 ?_
      refine sy_call 0 (by kernel_rfl) (aw (q35)) ?_
      refine sy_done 1 (v := Value.bool true) (h := q35) (by kernel_rfl) ?_
      rfl
  · obtain ⟨c4, c5, c6, c7, c8, c9, c10, c11, c12, c13, c14, c15, c16, c17, c18, c19, c20, c21, c22, c23⟩ := B
    refine sy_call 0 (by kernel_rfl) (c4 (oa) (oc) (h1)) ?_
    refine sy_call 0 (by kernel_rfl) (c5 (oa) (oc) (h1)) ?_
    refine ok_go 4 ?_
    obtain ⟨y6, q6, ec6, rc6⟩ := c6 (oa) (oc) (h1)
    refine sy_call 0 (by kernel_rfl) ec6 ?_
    obtain ⟨rfl, X⟩ := rc6
    have W := W.call X
    refine ok_go 2 ?_
    obtain ⟨y7, q7, ec7, rc7⟩ := c7 (oa) (oc) (q6)
    refine sy_call 0 (by kernel_rfl) ec7 ?_
    obtain ⟨rfl, X⟩ := rc7
    have W := W.call X
    refine ok_go 2 ?_
    obtain ⟨y8, q8, ec8, rc8⟩ := c8 (oa) (oc) (q7)
    refine sy_call 0 (by kernel_rfl) ec8 ?_
    obtain ⟨rfl, X⟩ := rc8
    have W := W.call X
    refine ok_go 2 ?_
    obtain ⟨y9, q9, ec9, rc9⟩ := c9 (oa) (oc) (q8)
    refine sy_call 0 (by kernel_rfl) ec9 ?_
    obtain ⟨rfl, X⟩ := rc9
    have W := W.call X
    refine ok_go 2 ?_
    obtain ⟨y10, q10, ec10, rc10⟩ := c10 (oa) (oc) (q9)
    refine sy_call 0 (by kernel_rfl) ec10 ?_
    obtain ⟨rfl, X⟩ := rc10
    have W := W.call X
    refine ok_go 2 ?_
    obtain ⟨y11, q11, ec11, rc11⟩ := c11 (oa) (oc) (q10)
    refine sy_call 0 (by kernel_rfl) ec11 ?_
    obtain ⟨rfl, X⟩ := rc11
    have W := W.call X
    refine ok_go 3 ?_
    obtain ⟨y12, q12, ec12, rc12⟩ := c12 (oa) (oc) (q11)
    refine sy_call 0 (by kernel_rfl) ec12 ?_
    obtain ⟨rfl, X⟩ := rc12
    have W := W.call X
    refine ok_go 2 ?_
    obtain ⟨y13, q13, ec13, rc13⟩ := c13 (oa) (oc) (q12)
    refine sy_call 0 (by kernel_rfl) ec13 ?_
    obtain ⟨rfl, X⟩ := rc13
    have W := W.call X
    refine ok_go 2 ?_
    obtain ⟨y14, q14, ec14, rc14⟩ := c14 (oa) (oc) (q13)
    refine sy_call 0 (by kernel_rfl) ec14 ?_
    obtain ⟨rfl, X⟩ := rc14
    have W := W.call X
    refine ok_go 2 ?_
    obtain ⟨y15, q15, ec15, rc15⟩ := c15 (oa) (oc) (q14)
    refine sy_call 0 (by kernel_rfl) ec15 ?_
    obtain ⟨rfl, X⟩ := rc15
    have W := W.call X
    refine ow_new 2 W (AObj.cells [Value.int IntKind.i64 (Int.ofNat 0), Value.bool false, Value.slice none 0 0] 39 false) (fun q => Value.pointer (some { block := q, off := 0 })) (by kernel_rfl) fun g15x1 ng15x1 Wg15x1 => ?_
    have W := Wg15x1
    refine ow_storeA (P := Tryz.prog) (T := 39) (v := Value.agg { toList := [Value.int IntKind.i64 (Int.ofNat 0), Value.bool false, Value.slice none 0 0] }) 0 0 W ([Value.int IntKind.i64 (Int.ofNat 0), Value.bool false, Value.slice none 0 0]) rfl rfl rfl (by kernel_rfl) (by first | rfl | (repeat' (first | exact rfl | assumption | apply sc_cons))) (by kernel_rfl) fun g15x2 ng15x2 Wg15x2 => ?_
    have W := Wg15x2
    obtain ⟨y16, q16, ec16, rc16⟩ := c16 (oa) (oc) (g15x2)
    refine sy_call 0 (by kernel_rfl) ec16 ?_
    obtain ⟨rfl, X⟩ := rc16
    have W := W.call X
    refine ok_go 2 ?_
    obtain ⟨y17, q17, ec17, rc17⟩ := c17 (oa) (oc) (q16)
    refine sy_call 0 (by kernel_rfl) ec17 ?_
    obtain ⟨rfl, X⟩ := rc17
    have W := W.call X
    refine ok_go 2 ?_
    obtain ⟨y18, q18, ec18, rc18⟩ := c18 (oa) (oc) (q17)
    refine sy_call 0 (by kernel_rfl) ec18 ?_
    obtain ⟨rfl, X⟩ := rc18
    have W := W.call X
    refine ok_go 2 ?_
    obtain ⟨y19, q19, ec19, rc19⟩ := c19 (oa) (oc) (q18)
    refine sy_call 0 (by kernel_rfl) ec19 ?_
    obtain ⟨rfl, X⟩ := rc19
    have W := W.call X
    refine ok_go 4 ?_
    obtain ⟨y20, q20, ec20, rc20⟩ := c20 (oa) (oc) (q19)
    refine sy_call 0 (by kernel_rfl) ec20 ?_
    obtain ⟨rfl, X⟩ := rc20
    have W := W.call X
    refine ow_load (P := Tryz.prog) (T := 37) (off := 2) 96 0 W rfl rfl (by kernel_rfl) (by kernel_rfl) ?_
    refine ok_go 23 ?_
    obtain ⟨y21, q21, ec21, rc21⟩ := c21 (oa) (oc) (q20)
    refine sy_call 0 (by kernel_rfl) ec21 ?_
    obtain ⟨rfl, X⟩ := rc21
    have W := W.call X
    refine ok_go 4 ?_
    obtain ⟨y22, q22, ec22, rc22⟩ := c22 (oa) (oc) (q21)
    refine sy_call 0 (by kernel_rfl) ec22 ?_
    obtain ⟨rfl, X⟩ := rc22
    have W := W.call X
    refine ok_go 3 ?_
    obtain ⟨y23, q23, ec23, rc23⟩ := c23 (oa) (oc) (q22)
    refine sy_call 0 (by kernel_rfl) ec23 ?_
    obtain ⟨rfl, X⟩ := rc23
    have W := W.call X
    refine ok_go 2 ?_
    refine sy_call 0 (by kernel_rfl) (bt (q23)) ?_
    refine ok_go 1 ?_
    obtain ⟨y31, q31, ec31, rc31⟩ := tb (x) (n) (IntKind.wrap IntKind.i64 (Int.tdiv a0 7)) (q23) (by first | assumption | omega | exact rfl)
    refine sy_call 0 (by kernel_rfl) ec31 ?_
    obtain ⟨b, f, rfl, hb, X, A⟩ := rc31
    have W := W.call X
    obtain ⟨y32, q32, ec32, rc32⟩ := dp (f) (n) (b) (2 * 2 ^ n) (q31) (by first | assumption | omega | exact rfl) (by first | assumption | omega | exact rfl)
    refine sy_call 0 (by kernel_rfl) ec32 ?_
    obtain ⟨⟨d, rfl⟩, X⟩ := rc32
    have A := A.ext X
    have W := W.call X
    refine ok_go 2 ?_
    obtain ⟨y33, q33, ec33, rc33⟩ := de (f) (n) (b) (2 * 2 ^ n) (q32) (by first | assumption | omega | exact rfl) (by first | assumption | omega | exact rfl)
    refine sy_call 0 (by kernel_rfl) ec33 ?_
    obtain ⟨⟨tx, ty, ta, tl, tc, rfl, htl⟩, X⟩ := rc33
    have A := A.ext X
    have W := W.call X
    have nb := A.lt
    have V := Sto.start q33
    refine ow_new 2 V (AObj.cells [Value.int IntKind.i64 (Int.ofNat 0), Value.bool false, Value.slice none 0 0] 39 false) (fun q => Value.pointer (some { block := q, off := 0 })) (by kernel_rfl) fun vd1 nvd1 Vvd1 => ?_
    have V := Vvd1
    refine ow_storeA (P := Tryz.prog) (T := 39) (v := Value.agg { toList := [Value.int IntKind.i64 tx, Value.bool ty, Value.slice ta tl tc] }) 0 0 V ([Value.int IntKind.i64 tx, Value.bool ty, Value.slice ta tl tc]) rfl rfl rfl (by kernel_rfl) (by first | rfl | (repeat' (first | exact rfl | assumption | apply sc_cons))) (by kernel_rfl) fun vd2 nvd2 Vvd2 => ?_
    have V := Vvd2
    have A := A.ext V.ext
    obtain ⟨y34, q34, ec34, rc34⟩ := co (f) (n) (b) (2 * 2 ^ n) (vd2) (by first | assumption | omega | exact rfl) (by first | assumption | omega | exact rfl)
    refine sy_call 0 (by kernel_rfl) ec34 ?_
    obtain ⟨⟨la, ll, lc, rfl, hll⟩, A, X⟩ := rc34
    obtain ⟨ob, eb⟩ := A.get
    have V := sto_exc V X nb eb
    refine ok_go 2 ?_
    obtain ⟨y35, q35, ec35, rc35⟩ := tw (f) (n) (b) (2 * 2 ^ n) (q34) (by first | assumption | omega | exact rfl) (by first | assumption | omega | exact rfl)
    refine sy_call 0 (by kernel_rfl) ec35 ?_
    obtain ⟨⟨wa, wl, wc, rfl, hwl⟩, X⟩ := rc35
    have V := V.call X
    rcases (by omega : n = 0 ∨ n = 1 ∨ n = 2 ∨ n = 3 ∨ n = 4 ∨ n = 5 ∨ n = 6) with rfl | rfl | rfl | rfl | rfl | rfl | rfl
    · refine ok_go 57 ?_
      refine sy_call 0 (by kernel_rfl) (aw (q35)) ?_
      refine sy_done 1 (v := Value.bool true) (h := q35) (by kernel_rfl) ?_
      rfl
    · refine ok_go 57 ?_
      refine sy_call 0 (by kernel_rfl) (aw (q35)) ?_
      refine sy_done 1 (v := Value.bool true) (h := q35) (by kernel_rfl) ?_
      rfl
    · refine ok_go 57 ?_
      refine sy_call 0 (by kernel_rfl) (aw (q35)) ?_
      refine sy_done 1 (v := Value.bool true) (h := q35) (by kernel_rfl) ?_
      rfl
    · refine ok_go 57 ?_
      refine sy_call 0 (by kernel_rfl) (aw (q35)) ?_
      refine sy_done 1 (v := Value.bool true) (h := q35) (by kernel_rfl) ?_
      rfl
    · refine ok_go 57 ?_
      refine sy_call 0 (by kernel_rfl) (aw (q35)) ?_
      refine sy_done 1 (v := Value.bool true) (h := q35) (by kernel_rfl) ?_
      rfl
    · obtain rfl : ll = 0 := hll.resolve_left (by decide)
      obtain rfl : wl = 0 := hwl.resolve_left (by decide)
      refine ok_go 61 ?_
      refine sy_call 0 (by kernel_rfl) (aw (q35)) ?_
      refine sy_done 1 (v := Value.bool true) (h := q35) (by kernel_rfl) ?_
      rfl
    · obtain rfl : ll = 0 := hll.resolve_left (by decide)
      obtain rfl : wl = 0 := hwl.resolve_left (by decide)
      obtain rfl : tl = 0 := htl.resolve_left (by decide)
      refine ow_load (P := Tryz.prog) (T := 37) (off := 2) 39 0 V rfl rfl (by kernel_rfl) (by kernel_rfl) ?_
      refine ok_go 25 ?_
      refine sy_call 0 (by kernel_rfl) (aw (q35)) ?_
      refine sy_done 1 (v := Value.bool true) (h := q35) (by kernel_rfl) ?_
      rfl
end Go.Proofs.YtnfboopfpkaeaaaGreatDoor
namespace Go.Proofs.YtnfboopfpkaeaaaGreatDoor
open Go Go.Eng Nim Go.ChangeShapes
set_option maxRecDepth 100000
section
variable {HH : Type} {enc : TypeId × Value → HH} {B : Prot} {w0 w : World}
theorem cell_block {w : World} {a : Addr} {v : Value} (h : w.cell? a = some v) : ∃ arr e fz, w.heap[a.block]? = some (.cells arr e fz) ∧ a.spot = none ∧ arr[a.off]? = some v := by
  unfold World.cell? at h
  split at h
  · rename_i c e fz hb
    split at h
    · cases h
    · rename_i hs
      refine ⟨c, e, fz, hb, ?_, h⟩
      cases hq : a.spot with
      | none => rfl
      | some q => rw [hq] at hs; simp at hs
  · cases h
theorem add_spot {a : Addr} (h : a.spot = none) (i : Nat) : a.add i = ⟨a.block, a.off + i, none⟩ := by
  obtain ⟨b, o, s⟩ := a
  simp only at h
  subst h
  unfold Addr.add
  split
  · rename_i h0; subst h0; rfl
  · rfl
theorem takeN_take : ∀ {n : Nat} {l : List Value} {r : List Value}, takeN n l = some r → ∀ k, k ≤ n → takeN k l = some (r.take k)
  | _, _, _, _, 0, _ => by simp [takeN]
  | 0, _, _, _, k + 1, hk => absurd hk (by omega)
  | n + 1, [], _, h, k + 1, _ => by simp [takeN] at h
  | n + 1, v :: l, r, h, k + 1, hk => by
    unfold takeN at h
    split at h
    · rename_i l' hl'
      cases h
      unfold takeN
      rw [takeN_take hl' k (by omega)]
      rfl
    · cases h
theorem u22 : Tryz.prog.underlying 22 = some (.slice 4) := by kernel_rfl
/-- The value of a part from the beginning. -/
theorem slice_val {i off len cap K : Nat} (h : K ≤ cap) : ∃ c, sliceOp Tryz.prog 22 (.slice (some ⟨i, off, none⟩) len (2 * cap)) none (some (J K)) none = some (.slice (some ⟨i, off, none⟩) K c) := by
  have hd : 2 * cap / 2 = cap := by omega
  have hm : 2 * cap % 2 = 0 := by omega
  have hs : sizeT Tryz.prog 4 = some 1 := by kernel_rfl
  simp only [sliceOp, u22, hs, sliceV, hd, hm, Go.Eng.bound, Option.isSome_none, show natOf (J K) = some K from rfl, Bool.false_eq_true, if_false, Nat.ble_eq_true_of_le h, Nat.ble_eq_true_of_le (Nat.zero_le cap), show Nat.beq 0 1 = false from rfl, Bool.false_and]
  cases hb : Nat.beq cap 0
  · exact ⟨2 * cap, by simp⟩
  · exact ⟨0, by simp⟩
theorem openBools {E : Env} {h : Hp} (H : HpOK Tryz.prog B w0 E h w) (hB : ∀ k, k < w.heap.size → B.ro k) {fuel : Nat} {c : Value} {x : DataW HH × List MemPlace}
    (ht : DataW.trod enc Tryz.prog w 0 (fun _ => true) true fuel 22 [c] = some x) :
    ∃ (E' : Env) (h' : Hp) (va : Option Addr) (vc : Nat) (r : List Bool), HpOK Tryz.prog B w0 E' h' w ∧ con E' (.slice va r.length vc) = c ∧ sc h'.next (.slice va r.length vc) = true ∧ r.length < 2 ^ 63 ∧ Rds h' (.slice va r.length vc) (r.map Value.bool) ∧
      ((va = none ∧ r = [] ∧ vc = 0) ∨ ∃ a, va = some a ∧ ∀ K, K ≤ r.length → ∃ y, sliceOp Tryz.prog 22 (.slice (some a) r.length vc) none (some (J K)) none = some y ∧ Rds h' y ((r.take K).map Value.bool)) := by
  rcases Go.Deep.open_bools u22 Tryz.underlying4 (by kernel_rfl) ht with ⟨hc, _⟩ | ⟨a, len, cap, bs, hc, _, hlc, hcm, _, hcell0⟩
  · simp only [List.cons.injEq, and_true] at hc
    subst hc
    exact ⟨E, h, none, 0, [], H, by simp [con], rfl, by decide, .inl ⟨⟨none, rfl⟩, rfl⟩, .inl ⟨rfl, rfl, rfl⟩⟩
  · simp only [List.cons.injEq, and_true] at hc
    subst hc
    obtain ⟨zs, hzs⟩ : ∃ zs, zs = (List.range cap).map bs := ⟨_, rfl⟩
    have hzl : zs.length = cap := by rw [hzs, List.length_map, List.length_range]
    have hcell : ∀ i, i < zs.length → w.cell? (a.add i) = some (Value.bool (zs.getD i false)) := fun i hi => by
      rw [hcell0 i (by omega), List.getD_eq_getElem?_getD, hzs, List.getElem?_map, List.getElem?_range (by omega)]
      rfl
    clear hzs
    have hspot : 0 < cap → a.spot = none := fun hp => by
      have := hcell 0 (by omega)
      obtain ⟨_, _, _, _, h2, _⟩ := cell_block this
      unfold Addr.add at h2
      simpa using h2
    have hcl : ∀ i (v : Value), ((zs.take len).map Value.bool)[i]? = some v → w.cell? (a.add i) = some (con E v) := fun i v hv => by
      have hil : i < len ∧ i < zs.length := by
        have := (List.getElem?_eq_some_iff.1 hv).1
        simp at this
        exact ⟨by omega, by omega⟩
      have := hcell i hil.2
      rw [this]
      rw [List.getElem?_map, List.getElem?_take, if_pos hil.1, List.getElem?_eq_getElem hil.2] at hv
      simp only [Option.map_some, Option.some.injEq] at hv
      subst hv
      rw [List.getD_eq_getElem?_getD, List.getElem?_eq_getElem hil.2]
      simp [con]
    have hm : maxLen = 2 ^ 63 - 1 := rfl
    have hlr : (zs.take len).length = len := by rw [List.length_take]; omega
    generalize zs.take len = r at hcl hlr
    subst hlr
    cases r with
    | nil =>
      refine ⟨E.ext h.next a.block 0, ⟨h.objs, h.next + 1⟩, some ⟨h.next, a.off, a.spot⟩, 2 * cap, [], H.bump a.block, ?_, by simp [sc], by decide, ?_, .inr ⟨_, rfl, fun K hK => ?_⟩⟩
      · obtain ⟨b, o, s⟩ := a
        cases s with
        | none => simp [con, conCap]
        | some q =>
          have hc : cap = 0 := Nat.eq_zero_of_not_pos fun hp => by have := hspot hp; simp at this
          subst hc
          simp [con, conCap, conOff, conSpot]
      · cases hsp : a.spot with
        | none => exact .inr ⟨h.next, a.off, _, rfl, fun hn => absurd rfl hn⟩
        | some q =>
          have hc : cap = 0 := Nat.eq_zero_of_not_pos fun hp => by have := hspot hp; rw [hsp] at this; cases this
          subst hc
          exact .inl ⟨⟨_, rfl⟩, rfl⟩
      · obtain rfl : K = 0 := by simpa using hK
        cases hsp : a.spot with
        | none =>
          obtain ⟨c, e⟩ := slice_val (i := h.next) (off := a.off) (len := 0) (Nat.zero_le cap)
          exact ⟨_, e, .inr ⟨h.next, a.off, _, rfl, fun hn => absurd rfl hn⟩⟩
        | some q =>
          have hc : cap = 0 := Nat.eq_zero_of_not_pos fun hp => by have := hspot hp; rw [hsp] at this; cases this
          subst hc
          exact ⟨.slice (some ⟨h.next, a.off, some q⟩) 0 0, by kernel_rfl, .inl ⟨⟨_, rfl⟩, rfl⟩⟩
    | cons v r =>
      have h0 := hcl 0 (Value.bool v) rfl
      have hsp : a.spot = none := hspot (by simp at hlc; omega)
      obtain ⟨arr, e, fz, hb, _, ha⟩ := cell_block h0
      rw [add_spot hsp] at ha hb
      have ha0 : a.off + 0 < arr.size := (Array.getElem?_eq_some_iff.1 ha).1
      have hall : ∀ u ∈ (v :: r).map Value.bool, ∃ z, u = Value.bool z := fun u hu => by
        obtain ⟨z, _, rfl⟩ := List.mem_map.1 hu
        exact ⟨z, rfl⟩
      have hR := H.newRo (m := a.block) (off := a.off) (arr := arr) (cs := (v :: r).map Value.bool) (e := e) (hB _ (Array.getElem?_eq_some_iff.1 hb).1) hb (by omega) (fun i u hu => by
        have hi := hcl i u hu
        obtain ⟨arr', e', fz', hb', _, ha'⟩ := cell_block hi
        rw [add_spot hsp] at hb' ha'
        rw [hb] at hb'
        cases hb'
        exact ha') (by rw [scL_iff]; intro u hu; obtain ⟨z, rfl⟩ := hall u hu; rfl) (fun u hu => by obtain ⟨z, rfl⟩ := hall u hu; rfl)
      have hld : ∀ K, K ≤ (v :: r).length → loadN (h.new (.ro a.off ((v :: r).map Value.bool) e)) h.next a.off K = some (((v :: r).take K).map Value.bool) := by
        intro K hK
        unfold loadN
        rw [get_new]
        have hble : Nat.ble a.off a.off = true := Nat.ble_eq_true_of_le (Nat.le_refl _)
        simp only [hble, Nat.sub_self, List.drop_zero]
        have := takeN_take (takeN_all ((v :: r).map Value.bool)) K (by simpa using hK)
        rw [this, List.map_take]
      have hrd : ∀ K c, K ≤ (v :: r).length → Rds (h.new (.ro a.off ((v :: r).map Value.bool) e)) (.slice (some ⟨h.next, a.off, none⟩) K c) (((v :: r).take K).map Value.bool) := by
        intro K c hK
        have hlen : (((v :: r).take K).map Value.bool).length = K := by rw [List.length_map, List.length_take, Nat.min_eq_left hK]
        refine .inr ⟨h.next, a.off, c, by rw [hlen], fun _ => ⟨Nat.lt_succ_self _, ?_⟩⟩
        rw [hlen]
        exact hld K hK
      refine ⟨_, _, some ⟨h.next, a.off, none⟩, 2 * cap, v :: r, hR, ?_, by simp [sc, Hp.new], by omega, ?_, .inr ⟨_, rfl, fun K hK => ?_⟩⟩
      · obtain ⟨b, o, s⟩ := a
        simp only at hsp
        subst hsp
        simp [con, conCap]
      · have := hrd (v :: r).length (2 * cap) (Nat.le_refl _)
        rwa [List.take_length] at this
      · obtain ⟨c, e⟩ := slice_val (i := h.next) (off := a.off) (len := (v :: r).length) (K := K) (cap := cap) (by omega)
        exact ⟨_, e, hrd K c hK⟩
end
end Go.Proofs.YtnfboopfpkaeaaaGreatDoor
