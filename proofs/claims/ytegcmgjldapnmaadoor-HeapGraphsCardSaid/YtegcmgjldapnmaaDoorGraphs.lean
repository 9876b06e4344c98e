/- HeapGraphs answers true, whatever the arguments. No condition but that the listed variables start as the program's text lays them. -/
import Derived.Test.YtegcmgjldapnmaaDoorRows
import Derived.Test.YtegcmgjldapnmaaDoorCards
import Derived.Test.YtegcmgjldapnmaaDoorTie
import Derived.WalkKit
import Derived.ProofKit
import Derived.OpenShut
import Derived.LaidMore
import Derived.Lay
import Derived.ChangeStays
import Derived.SevenTiedAt
import Derived.Stop.Joined
import Derived.Test.YtegcmgjldapnmaaDoorGrfQC
namespace Go.Proofs.YtegcmgjldapnmaaDoor.heapGraphs
open Go.ChangeShapes Go.WideShapes Go.ChangeAt Go.RowKit Go.Eng
set_option maxRecDepth 100000

theorem own : ownKnob Tryd.prog.godebug = none := by kernel_rfl
theorem kids : Kids Tryd.prog (fun t => t = 31 ∨ t = 32 ∨ t = 3) := by
  refine ⟨fun h hu => ?_, fun h hu => ?_, fun h hu => ?_, fun h hu => ?_, fun h hu => ?_⟩
  · rcases h with rfl | rfl | rfl
    · rw [u31] at hu; cases hu
    · rw [u32] at hu; cases hu
    · rw [Tryd.underlying3] at hu; cases hu
  · rcases h with rfl | rfl | rfl
    · rw [u31] at hu; cases hu; exact .inr (.inl rfl)
    · rw [u32] at hu; cases hu; exact .inr (.inr rfl)
    · rw [Tryd.underlying3] at hu; cases hu
  · rcases h with rfl | rfl | rfl
    · rw [u31] at hu; cases hu
    · rw [u32] at hu; cases hu
    · rw [Tryd.underlying3] at hu; cases hu
  · rcases h with rfl | rfl | rfl
    · rw [u31] at hu; cases hu
    · rw [u32] at hu; cases hu
    · rw [Tryd.underlying3] at hu; cases hu
  · rcases h with rfl | rfl | rfl
    · rw [u31] at hu; cases hu
    · rw [u32] at hu; cases hu
    · rw [Tryd.underlying3] at hu; cases hu
theorem sizes : ∀ {t e : TypeId}, (t = 31 ∨ t = 32 ∨ t = 3) → Tryd.prog.underlying t = some (.slice e) → 0 < Tryd.prog.cellsOf e := by
  intro t e h hu
  rcases h with rfl | rfl | rfl
  · rw [u31] at hu; cases hu; exact (by kernel_rfl : Tryd.prog.cellsOf 32 = 1) ▸ Nat.one_pos
  · rw [u32] at hu; cases hu; exact (by kernel_rfl : Tryd.prog.cellsOf 3 = 1) ▸ Nat.one_pos
  · rw [Tryd.underlying3] at hu; cases hu
theorem stays {H : Type} {enc : TypeId × Value → H} {w w' : World} {sp : Nat → Bool} : ∀ {ts : List TypeId} {vs : List Value} {ds : List (DataW H)} {ps : List MemPlace}, (∀ t ∈ ts, t = 31 ∨ t = 32 ∨ t = 3) →
    DataW.TrodAll enc Tryd.prog w 0 (fun _ => true) true ts vs ds ps → (∀ p ∈ ps, w.sameAt w' p) → (∀ p ∈ ps, sp p.block = true) → DataW.TrodAll enc Tryd.prog w' 0 sp true ts vs ds ps
  | [], vs, ds, ps, _, h, _, _ => by
    obtain ⟨rfl, rfl, rfl⟩ := trodAll_nil h
    exact trodAll_mk0
  | t :: ts, vs, ds, ps, ht, h, h1, h2 => by
    obtain ⟨v, vs', d, ds', p, q, rfl, rfl, rfl, ⟨fuel, hf⟩, hr⟩ := trodAll_cons h
    exact trodAll_cons_mk ⟨fuel, DataW.trod_stays kids sizes (fun hh => by cases hh) (ht t (by simp)) hf (fun x hx => h1 x (List.mem_append_left _ hx)) (fun x hx => h2 x (List.mem_append_left _ hx))⟩
      (stays (fun u hu => ht u (by simp [hu])) hr (fun x hx => h1 x (List.mem_append_right _ hx)) (fun x hx => h2 x (List.mem_append_right _ hx)))

theorem walk {H : Type} {enc : TypeId × Value → H} {w : World} {base : Nat} {v0 : Value} {d0 : DataW H} {p0 : List MemPlace} {a1 : Int} (k0 : Value.okWide Tryd.prog w .any base 31 v0) (t0 : DataW.Trod enc Tryd.prog w 0 (fun _ => true) true 31 v0 d0 p0) (w1 : (Lit.int .i64 a1).wf = true) : Calls Tryd.prog 6 #[v0, .int .i64 a1] w fun e w' => e = .returned (.bool true) ∧ Below w.heap.size w w' := by
  have H0 := hpOK_all Tryd.prog w
  obtain ⟨E0, h0, x0, g0, H01, ag0, ex0, co0, sc0, gr0, gl0, gw0⟩ := openRowsArg H0 (fun _ hk => hk) k0 t0
  obtain ⟨HH, e⟩ := run x0 g0 gr0 gl0 gw0 a1 w1
  have hc := calls_read orc_ok (by kernel_rfl) H01 e (by simp [scL, sc, sc0]) rfl
  have ha : conL E0 [x0, .int .i64 a1] = [v0, .int .i64 a1] := by simp [conL, con, co0]
  rw [ha] at hc
  exact hc

set_option maxRecDepth 100000 in
theorem lifted (os : Os) (started : os.Started) (H : Type) (enc : TypeId × Value → H) :
    ReturnsInHanded {} Tryd.checked os 6 .any (fun w args => (Rows.heapGraphsSpec.pre enc Tryd.prog Tryd.f6 Rows.heapGraphsRow.domain false w args ∧ laidMetH Tryd.prog Rows.heapGraphsRow.laid w) ∧ sizedMet enc Tryd.prog Tryd.f6 (OpenSpec.ofChange Rows.heapGraphsSpec) false w args)
      (Rows.heapGraphsSpec.post enc Tryd.prog Tryd.f6 false true false false) := by
  refine returnsInHanded_of_change_and (C := Tryd.checked) (X := fun w _ => laidMetH Tryd.prog Rows.heapGraphsRow.laid w) (fun _ _ _ hh h => h.of_heap hh) own started (by kernel_rfl) Tryd.func6
    (ChangeSpec.witness_shaped (enc := enc) (C := Tryd.checked) (os := os) (X := fun w _ => laidMetH Tryd.prog Rows.heapGraphsRow.laid w) false (World.laidAll Tryd.prog os Rows.heapGraphsRow.laid) #[.slice none 0 0, .int .i64 0] 8 (World.laidAll_os _ _ _)
      (World.shaped_of_ZipB (by kernel_rfl) (by kernel_rfl)) (by kernel_rfl) (by kernel_rfl) (by kernel_rfl)
      (by rw [MakeChecks.laidMetH_plain _ _ _ (by kernel_rfl)]; exact laidMet_laidAll _ (by kernel_rfl) (by kernel_rfl))) ?_
  intro W base args ds gs before hval0 hW _ _ _ _
  have hval : ∀ (j : Nat) t v, Tryd.f6.params[j]? = some t → args[j]? = some v → Value.okWide Tryd.prog W .any base t v := hval0
  have hW' := hW
  obtain ⟨p, q, hA0, hV, rfl, hfz, hnd⟩ := hW
  have hA : DataW.TrodAll enc Tryd.prog W 0 (fun _ => true) true Tryd.f6.params.toList args.toList ds p := hA0
  have hAll := hA
  rw [Tryd.params6] at hA hval
  obtain ⟨v0, vs0, d0, ds0, p0, q0, hargs, rfl, rfl, h0, r0⟩ := trodAll_cons hA
  obtain ⟨v1, vs1, d1, ds1, p1, q1, rfl, rfl, rfl, h1, r1⟩ := trodAll_cons r0
  obtain ⟨rfl, rfl, rfl⟩ := trodAll_nil r1
  obtain rfl : args = #[v0, v1] := by cases args; simp_all
  obtain ⟨rfl, rfl⟩ := trodVars_none hV
  obtain ⟨a1, rfl, rfl, rfl, w1⟩ := open_int Tryd.underlying3 (hval 1 3 v1 rfl rfl) h1
  have hlt := DataW.TrodAll.lt hAll
  simp only [List.append_nil] at hW' hAll hlt
  refine (walk (hval 0 31 v0 rfl rfl) h0 w1).mono fun e W' ⟨he, hg⟩ => ?_
  subst he
  refine ⟨_, rfl, post_of_below (pv := []) hW' (fun _ _ _ => (trodAll_cons_mk (shut_bool Tryd.underlying4 _) trodAll_mk0)) (fun sp hsp => ?_) (fun _ _ => rfl) (List.append_nil _).symm
    hg (ok_one (by kernel_rfl) rfl (okWide_bool_mk Tryd.underlying4 _))⟩
  exact stays (by rw [Tryd.params6]; decide) hAll (fun p hp => hg.same (hlt p hp)) hsp

theorem over : Rows.HeapGraphsSaid :=
  OpenClaim.holds_of_wide 6 Tryd.f6 rfl rfl rfl rfl rfl rfl rfl ⟨rfl, rfl, rfl, rfl, rfl⟩ rfl rfl rfl rfl rfl (by kernel_rfl) Tryd.func6 (by kernel_rfl)
    (of_decide_eq_true (by kernel_rfl)) (by unfold Func.isWrapper; first | (rw [if_pos (by decide +kernel)]; kernel_rfl) | (rw [if_neg (by decide +kernel)]; exact ⟨rfl, rfl⟩))
    (fun os started H enc _ => lifted os started H enc)

theorem proved : Rows.HeapGraphsCardSaid :=
  Claim7.holds_tied_plain_at .later [] [.data, .pinned] true (true, "995203972bb0ab44ffc750601f34385a0366791de30a651566a691a903aca3d4") false
    over (fun _ h => by cases h) (by kernel_rfl) (fun _ h => by cases h) heapGraphs_row_tie rfl ⟨rfl, rfl⟩ (by kernel_rfl) rfl
    (fun f fn hf hfn => by
      obtain rfl : f = 6 := Option.some.inj ((show Tryd.prog.funcNamed "stadda/staddalaw06.HeapGraphs" = some 6 by kernel_rfl).symm.trans hf) |>.symm
      obtain rfl : fn = Tryd.f6 := (Option.some.inj (Tryd.func6.symm.trans hfn)).symm
      exact ⟨by kernel_rfl, fun j t ht => by
        rw [Tryd.params6] at ht
        have h3 : t = 3 ∨ t = 31 := by
          rcases j with _ | _ | j
          · have h5 := (Option.some.inj ht).symm; subst h5; decide
          · have h5 := (Option.some.inj ht).symm; subst h5; decide
          · simp at ht
        rcases h3 with rfl | rfl
        · exact (show Tryd.prog.wantsStandIn 3 = false by kernel_rfl)
        · exact (show Tryd.prog.wantsStandIn 31 = false by kernel_rfl)⟩)
    (by kernel_rfl)
end Go.Proofs.YtegcmgjldapnmaaDoor.heapGraphs
