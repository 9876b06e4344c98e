/- ShatErdos answers true, whatever the arguments. No condition but that the listed variables start as the program's text lays them. -/
import Derived.Test.YtkfbfgcflnkllaaGreatDoorRows
import Derived.Test.YtkfbfgcflnkllaaGreatDoorCards
import Derived.Test.YtkfbfgcflnkllaaGreatDoorTie
import Derived.WalkKit
import Derived.ProofKit
import Derived.OpenShut
import Derived.LaidMore
import Derived.Lay
import Derived.ChangeStays
import Derived.SevenTiedAt
import Derived.Stop.Joined
import Derived.WideKeyPair
import Derived.ChangeMaps5
import Derived.Test.YtkfbfgcflnkllaaGreatDoorSxK
namespace Go.Proofs.YtkfbfgcflnkllaaGreatDoor.shatErdos
open Go.ChangeShapes Go.WideShapes Go.ChangeAt Go.RowKit Go.Eng Go.ChangeMaps
set_option maxRecDepth 100000

theorem own : ownKnob Tryz.prog.godebug = none := by kernel_rfl
theorem uL : Tryz.prog.underlying 28 = some (.slice 3) := by kernel_rfl
theorem kids : Kids Tryz.prog (fun t => t = 28 ∨ t = 3) := by
  refine ⟨fun h hu => ?_, fun h hu => ?_, fun h hu => ?_, fun h hu => ?_, fun h hu => ?_⟩
  · rcases h with rfl | rfl
    · rw [uL] at hu; cases hu
    · rw [Tryz.underlying3] at hu; cases hu
  · rcases h with rfl | rfl
    · rw [uL] at hu; cases hu; exact .inr rfl
    · rw [Tryz.underlying3] at hu; cases hu
  · rcases h with rfl | rfl
    · rw [uL] at hu; cases hu
    · rw [Tryz.underlying3] at hu; cases hu
  · rcases h with rfl | rfl
    · rw [uL] at hu; cases hu
    · rw [Tryz.underlying3] at hu; cases hu
  · rcases h with rfl | rfl
    · rw [uL] at hu; cases hu
    · rw [Tryz.underlying3] at hu; cases hu
theorem sizes : ∀ {t e : TypeId}, (t = 28 ∨ t = 3) → Tryz.prog.underlying t = some (.slice e) → 0 < Tryz.prog.cellsOf e := by
  intro t e h hu
  rcases h with rfl | rfl
  · rw [uL] at hu; cases hu; exact (by kernel_rfl : Tryz.prog.cellsOf 3 = 1) ▸ Nat.one_pos
  · rw [Tryz.underlying3] at hu; cases hu
theorem stays {H : Type} {enc : TypeId × Value → H} {w w' : World} {sp : Nat → Bool} : ∀ {ts : List TypeId} {vs : List Value} {ds : List (DataW H)} {ps : List MemPlace}, (∀ t ∈ ts, t = 28 ∨ t = 3) →
    DataW.TrodAll enc Tryz.prog w 0 (fun _ => true) true ts vs ds ps → (∀ p ∈ ps, w.sameAt w' p) → (∀ p ∈ ps, sp p.block = true) → DataW.TrodAll enc Tryz.prog w' 0 sp true ts vs ds ps
  | [], vs, ds, ps, _, h, _, _ => by
    obtain ⟨rfl, rfl, rfl⟩ := trodAll_nil h
    exact trodAll_mk0
  | t :: ts, vs, ds, ps, ht, h, h1, h2 => by
    obtain ⟨v, vs', d, ds', p, q, rfl, rfl, rfl, ⟨fuel, hf⟩, hr⟩ := trodAll_cons h
    exact trodAll_cons_mk ⟨fuel, DataW.trod_stays kids sizes (fun hh => by cases hh) (ht t (by simp)) hf (fun x hx => h1 x (List.mem_append_left _ hx)) (fun x hx => h2 x (List.mem_append_left _ hx))⟩
      (stays (fun u hu => ht u (by simp [hu])) hr (fun x hx => h1 x (List.mem_append_right _ hx)) (fun x hx => h2 x (List.mem_append_right _ hx)))

theorem walk {H : Type} {enc : TypeId × Value → H} {w : World} {base : Nat} (a0 : Int) {v1 : Value} {d1 : DataW H} {p1 : List MemPlace} (a2 : Int) (k : Value.okWide Tryz.prog w .any base 28 v1) (t : DataW.Trod enc Tryz.prog w 0 (fun _ => true) true 28 v1 d1 p1) : Calls Tryz.prog 11 #[.int .i64 a0, v1, .int .i64 a2] w fun e w' => e = .returned (.bool true) ∧ Below w.heap.size w w' := by
  have H0 := hpOK_all Tryz.prog w
  obtain ⟨E, h, xa, xc, zs, H1, co, scv, rd, wf, len⟩ := openIntsArg H0 (fun _ hk => hk) k t
  obtain ⟨HH, e⟩ := said11 a0 zs len xa xc a2 h rd wf
  have hc := calls_read orc_ok (by kernel_rfl) H1 e (by simp only [scL, sc, Bool.and_true, Bool.true_and]; exact scv) rfl
  have ha : conL E [.int .i64 a0, .slice xa zs.length xc, .int .i64 a2] = [.int .i64 a0, v1, .int .i64 a2] := by
    show [con E (.int .i64 a0), con E (.slice xa zs.length xc), con E (.int .i64 a2)] = _
    rw [co]
    rfl
  rw [ha] at hc
  exact hc

set_option maxRecDepth 100000 in
theorem lifted (os : Os) (started : os.Started) (H : Type) (enc : TypeId × Value → H) :
    ReturnsInHanded {} Tryz.checked os 11 .any (fun w args => (Rows.shatErdosSpec.pre enc Tryz.prog Tryz.f11 Rows.shatErdosRow.domain false w args ∧ laidMetH Tryz.prog Rows.shatErdosRow.laid w) ∧ sizedMet enc Tryz.prog Tryz.f11 (OpenSpec.ofChange Rows.shatErdosSpec) false w args)
      (Rows.shatErdosSpec.post enc Tryz.prog Tryz.f11 false true false false) := by
  refine returnsInHanded_of_change_and (C := Tryz.checked) (X := fun w _ => laidMetH Tryz.prog Rows.shatErdosRow.laid w) (fun _ _ _ hh h => h.of_heap hh) own started (by kernel_rfl) Tryz.func11
    (ChangeSpec.witness_shaped (enc := enc) (C := Tryz.checked) (os := os) (X := fun w _ => laidMetH Tryz.prog Rows.shatErdosRow.laid w) false (World.laidAll Tryz.prog os Rows.shatErdosRow.laid) #[.int .i64 0, .slice none 0 0, .int .i64 0] 8 (World.laidAll_os _ _ _)
      (World.shaped_of_ZipB (by kernel_rfl) (by kernel_rfl)) (by kernel_rfl) (by kernel_rfl) (by kernel_rfl)
      (by rw [MakeChecks.laidMetH_plain _ _ _ (by kernel_rfl)]; exact laidMet_laidAll _ (by kernel_rfl) (by kernel_rfl))) ?_
  intro W base args ds gs before hval0 hW _ _ _ _
  have hval : ∀ (j : Nat) t v, Tryz.f11.params[j]? = some t → args[j]? = some v → Value.okWide Tryz.prog W .any base t v := hval0
  have hW' := hW
  obtain ⟨p, q, hA0, hV, rfl, hfz, hnd⟩ := hW
  have hA : DataW.TrodAll enc Tryz.prog W 0 (fun _ => true) true Tryz.f11.params.toList args.toList ds p := hA0
  have hAll := hA
  rw [Tryz.params11] at hA hval
  obtain ⟨v0, vs0, d0, ds0, p0, q0, hargs, rfl, rfl, h0, r0⟩ := trodAll_cons hA
  obtain ⟨v1, vs1, d1, ds1, p1, q1, rfl, rfl, rfl, h1, r1⟩ := trodAll_cons r0
  obtain ⟨v2, vs2, d2, ds2, p2, q2, rfl, rfl, rfl, h2, r2⟩ := trodAll_cons r1
  obtain ⟨rfl, rfl, rfl⟩ := trodAll_nil r2
  obtain rfl : args = #[v0, v1, v2] := by cases args; simp_all
  obtain ⟨rfl, rfl⟩ := trodVars_none hV
  obtain ⟨a0, rfl, rfl, rfl, w0⟩ := open_int Tryz.underlying3 (hval 0 3 v0 rfl rfl) h0
  obtain ⟨a2, rfl, rfl, rfl, w2⟩ := open_int Tryz.underlying3 (hval 2 3 v2 rfl rfl) h2
  have hlt := DataW.TrodAll.lt hAll
  simp only [List.append_nil] at hW' hAll hlt
  refine (walk a0 a2 (hval 1 28 v1 rfl rfl) h1).mono fun e W' ⟨he, hg⟩ => ?_
  subst he
  refine ⟨_, rfl, post_of_below (pv := []) hW' (fun _ _ _ => (trodAll_cons_mk (shut_bool Tryz.underlying4 _) trodAll_mk0)) (fun sp hsp => ?_) (fun _ _ => rfl) (List.append_nil _).symm
    hg (ok_one (by kernel_rfl) rfl (okWide_bool_mk Tryz.underlying4 _))⟩
  exact stays (by rw [Tryz.params11]; decide) hAll (fun p hp => hg.same (hlt p hp)) hsp

theorem over : Rows.ShatErdosSaid :=
  OpenClaim.holds_of_wide 11 Tryz.f11 rfl rfl rfl rfl rfl rfl rfl ⟨rfl, rfl, rfl, rfl, rfl⟩ rfl rfl rfl rfl rfl (by kernel_rfl) Tryz.func11 (by kernel_rfl)
    (of_decide_eq_true (by kernel_rfl)) (by unfold Func.isWrapper; first | (rw [if_pos (by decide +kernel)]; kernel_rfl) | (rw [if_neg (by decide +kernel)]; exact ⟨rfl, rfl⟩))
    (fun os started H enc _ => lifted os started H enc)

theorem proved : Rows.ShatErdosCardSaid :=
  Claim7.holds_tied_plain_at .later [] [.data, .data, .data] true (true, "d328a2fa4f5dff29183116967c1406a68579ab20b23df562ec5de04eee5f71e4") true
    over (fun _ h => by cases h) (by kernel_rfl) (fun _ h => by cases h) shatErdos_row_tie rfl ⟨rfl, rfl⟩ (by kernel_rfl) rfl
    (fun f fn hf hfn => by
      obtain rfl : f = 11 := Option.some.inj ((show Tryz.prog.funcNamed "stadda/staddalaw08.ShatErdos" = some 11 by kernel_rfl).symm.trans hf) |>.symm
      obtain rfl : fn = Tryz.f11 := (Option.some.inj (Tryz.func11.symm.trans hfn)).symm
      exact ⟨by kernel_rfl, fun j t ht => by
        rw [Tryz.params11] at ht
        have h3 : t = 3 ∨ t = 28 := by
          rcases j with _ | _ | _ | j
          · have h5 := (Option.some.inj ht).symm; subst h5; decide
          · have h5 := (Option.some.inj ht).symm; subst h5; decide
          · have h5 := (Option.some.inj ht).symm; subst h5; decide
          · simp at ht
        rcases h3 with rfl | rfl
        · exact (show Tryz.prog.wantsStandIn 3 = false by kernel_rfl)
        · exact (show Tryz.prog.wantsStandIn 28 = false by kernel_rfl)⟩)
    (by kernel_rfl)
end Go.Proofs.YtkfbfgcflnkllaaGreatDoor.shatErdos
