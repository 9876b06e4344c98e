/- CubePrimes answers true, whatever the number and the two choices. No condition but that the listed variables start as the program's text lays them: the prime implicants of any table of up to six bits, and where it is not rising, are the reference's. -/
import Derived.Test.YtnfboopfpkaeaaaDoorRows
import Derived.Test.YtnfboopfpkaeaaaDoorCards
import Derived.Test.YtnfboopfpkaeaaaDoorTie
import Derived.WalkKit
import Derived.ProofKit
import Derived.OpenShut
import Derived.LaidMore
import Derived.Lay
import Derived.SevenTiedAt
import Derived.Stop.Joined
import Derived.WideKeyPair
import Derived.Test.YtnfboopfpkaeaaaDoorPrimQB
namespace Go.Proofs.YtnfboopfpkaeaaaDoor.cubePrimes
open Go.ChangeShapes Go.WideShapes Go.ChangeAt Go.RowKit Go.Eng
set_option maxRecDepth 100000

theorem own : ownKnob Tryd.prog.godebug = none := by kernel_rfl
theorem T22 : Tryd.prog.underlying 22 = some (.int .u64) := by kernel_rfl
theorem A23 : Go.WideMaps.ArrKey Tryd.prog 23 3 2 := ⟨by kernel_rfl, by kernel_rfl, by kernel_rfl, by kernel_rfl⟩
theorem gsz : Tryd.prog.globals.size = 2 := by kernel_rfl

theorem walk (x a0 a1 : Int) (w : World) (hL : laidMetH Tryd.prog Rows.cubePrimesRow.laid w) :
    Calls Tryd.prog 3 #[.int .u64 x, .agg #[.int .i64 a0, .int .i64 a1]] w fun e w' => e = .returned (.bool true) ∧ Below w.heap.size w w' := by
  obtain ⟨arr, e, fz, hb, hc⟩ := tab_cells hL
  have H0 := hpOK_all Tryd.prog w
  have hlt : 1 < w.heap.size := (Array.getElem?_eq_some_iff.1 hb).1
  have hlen : dbj.length = 64 := by kernel_rfl
  have H1 := setRo (g := 1) (cs := dbj.map fun n => Value.int .u8 (Int.ofNat n)) (e := e) H0 (by rw [gsz]; decide) hlt hb (fun i v hv => by
    rw [List.getElem?_map] at hv
    have hi : i < dbj.length := by
      rcases Nat.lt_or_ge i dbj.length with h | h
      · exact h
      · rw [List.getElem?_eq_none h] at hv; cases hv
    rw [List.getElem?_eq_getElem hi] at hv
    cases hv
    rw [hc i (by omega), List.getD, List.getElem?_eq_getElem hi]
    rfl) (by kernel_rfl) (fun v hv => by
      obtain ⟨n, _, rfl⟩ := List.mem_map.1 hv
      rfl) (fun j o ho => by cases ho)
  have hT : Tab ((⟨.nil, Tryd.prog.globals.size⟩ : Hp).put 1 (.ro 0 (dbj.map fun n => Value.int .u8 (Int.ofNat n)) e)) := ⟨show 1 < Tryd.prog.globals.size by rw [gsz]; decide, e, get_put _ _ _⟩
  generalize (⟨.nil, Tryd.prog.globals.size⟩ : Hp).put 1 (.ro 0 (dbj.map fun n => Value.int .u8 (Int.ofNat n)) e) = h0 at H1 hT
  obtain ⟨HH, ev⟩ := said3 x a0 a1 h0 hT
  have hc2 := calls_read orc_ok (by kernel_rfl) H1 ev (by simp [scL, sc, scA]) rfl
  have ha : conL (⟨fun i => i, fun _ => 0⟩ : Env) [.int .u64 x, .agg #[.int .i64 a0, .int .i64 a1]] = [.int .u64 x, .agg #[.int .i64 a0, .int .i64 a1]] := by
    rw [conL_eq]
    simp [con, conA, conL]
  rw [ha] at hc2
  exact hc2

set_option maxRecDepth 100000 in
theorem lifted (os : Os) (started : os.Started) (H : Type) (enc : TypeId × Value → H) :
    ReturnsInHanded {} Tryd.checked os 3 .any (fun w args => (Rows.cubePrimesSpec.pre enc Tryd.prog Tryd.f3 Rows.cubePrimesRow.domain false w args ∧ laidMetH Tryd.prog Rows.cubePrimesRow.laid w) ∧ sizedMet enc Tryd.prog Tryd.f3 (OpenSpec.ofChange Rows.cubePrimesSpec) false w args)
      (Rows.cubePrimesSpec.post enc Tryd.prog Tryd.f3 false true false false) := by
  refine returnsInHanded_of_change_and (C := Tryd.checked) (X := fun w _ => laidMetH Tryd.prog Rows.cubePrimesRow.laid w) (fun _ _ _ hh h => h.of_heap hh) own started (by kernel_rfl) Tryd.func3
    (ChangeSpec.witness_shaped (enc := enc) (C := Tryd.checked) (os := os) (X := fun w _ => laidMetH Tryd.prog Rows.cubePrimesRow.laid w) false (World.laidAll Tryd.prog os Rows.cubePrimesRow.laid) #[.int .u64 0, .agg #[.int .i64 0, .int .i64 0]] 8 (World.laidAll_os _ _ _)
      (World.shaped_of_ZipB (by kernel_rfl) (by kernel_rfl)) (by kernel_rfl) (by kernel_rfl) (by kernel_rfl)
      (by rw [MakeChecks.laidMetH_plain _ _ _ (by kernel_rfl)]; exact laidMet_laidAll _ (by kernel_rfl) (by kernel_rfl))) ?_
  intro W base args ds gs before hval0 hW _ _ hL _
  have hval : ∀ (j : Nat) t v, Tryd.f3.params[j]? = some t → args[j]? = some v → Value.okWide Tryd.prog W .any base t v := hval0
  have hW' := hW
  obtain ⟨p, q, hA0, hV, rfl, hfz, hnd⟩ := hW
  have hA : DataW.TrodAll enc Tryd.prog W 0 (fun _ => true) true Tryd.f3.params.toList args.toList ds p := hA0
  rw [Tryd.params3] at hA hval
  obtain ⟨v0, vs0, d0, ds0, p0, q0, hargs, rfl, rfl, h0, r0⟩ := trodAll_cons hA
  obtain ⟨v1, vs1, d1, ds1, p1, q1, rfl, rfl, rfl, h1, r1⟩ := trodAll_cons r0
  obtain ⟨rfl, rfl, rfl⟩ := trodAll_nil r1
  obtain rfl : args = #[v0, v1] := by cases args; simp_all
  obtain ⟨rfl, rfl⟩ := trodVars_none hV
  obtain ⟨x, rfl, rfl, rfl, w0⟩ := open_int T22 (hval 0 22 v0 rfl rfl) h0
  obtain ⟨a, b, rfl, rfl, rfl, wa, wb⟩ := Go.WideMaps.open_pair A23 Tryd.underlying3 (hval 1 23 v1 rfl rfl) h1
  clear hA0 hval0
  simp only [List.append_nil] at hW'
  refine (walk x a b W hL).mono fun e W' ⟨he, hg⟩ => ?_
  subst he
  exact ⟨_, rfl, post_of_below (pa := []) (pv := []) hW' (fun _ _ _ => (trodAll_cons_mk (shut_bool Tryd.underlying4 _) trodAll_mk0)) (fun sp _ => (trodAll_cons_mk (shut_int T22 w0) (trodAll_cons_mk (Go.WideMaps.shut_pair A23 Tryd.underlying3 wa wb) trodAll_mk0))) (fun _ _ => rfl) rfl
    hg (ok_one (by kernel_rfl) rfl (okWide_bool_mk Tryd.underlying4 _))⟩

theorem over : Rows.CubePrimesSaid :=
  OpenClaim.holds_of_wide 3 Tryd.f3 rfl rfl rfl rfl rfl rfl rfl ⟨rfl, rfl, rfl, rfl, rfl⟩ rfl rfl rfl rfl rfl (by kernel_rfl) Tryd.func3 (by kernel_rfl)
    (of_decide_eq_true (by kernel_rfl)) (by unfold Func.isWrapper; first | (rw [if_pos (by decide +kernel)]; kernel_rfl) | (rw [if_neg (by decide +kernel)]; exact ⟨rfl, rfl⟩))
    (fun os started H enc _ => lifted os started H enc)

theorem proved : Rows.CubePrimesCardSaid :=
  Claim7.holds_tied_plain_at .later [] [.data, .data] true (true, "b42953e08632e99bab6dd79976ed08b154328ace0c8acb352b03a8ec673afe08") false
    over (fun _ h => by cases h) (by kernel_rfl) (fun _ h => by cases h) cubePrimes_row_tie rfl ⟨rfl, rfl⟩ (by kernel_rfl) rfl
    (fun f fn hf hfn => by
      obtain rfl : f = 3 := Option.some.inj ((show Tryd.prog.funcNamed "stadda/staddalaw07.CubePrimes" = some 3 by kernel_rfl).symm.trans hf) |>.symm
      obtain rfl : fn = Tryd.f3 := (Option.some.inj (Tryd.func3.symm.trans hfn)).symm
      exact ⟨by kernel_rfl, fun j t ht => by
        rw [Tryd.params3] at ht
        rcases j with _ | _ | j
        · have h3 : t = 22 := by simpa using ht.symm
          subst h3
          exact (show Tryd.prog.wantsStandIn 22 = false by kernel_rfl)
        · have h3 : t = 23 := by simpa using ht.symm
          subst h3
          exact (show Tryd.prog.wantsStandIn 23 = false by kernel_rfl)
        · simp at ht⟩)
    (by kernel_rfl)
#print axioms proved
end Go.Proofs.YtnfboopfpkaeaaaDoor.cubePrimes
