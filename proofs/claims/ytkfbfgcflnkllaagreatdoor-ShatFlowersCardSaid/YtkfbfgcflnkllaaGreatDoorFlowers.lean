/- ShatFlowers answers true, whatever the arguments. No condition but that the listed variables start as the program's text lays them. -/
import Derived.Test.YtkfbfgcflnkllaaGreatDoorRows
import Derived.Test.YtkfbfgcflnkllaaGreatDoorCards
import Derived.Test.YtkfbfgcflnkllaaGreatDoorTie
import Derived.WalkKit
import Derived.ProofKit
import Derived.OpenShut
import Derived.LaidMore
import Derived.Lay
import Derived.ChangeStays
import Derived.SevenTiedAt
import Derived.Stop.Joined
import Derived.WideKeyPair
import Derived.ChangeMaps5
import Derived.Test.YtkfbfgcflnkllaaGreatDoorSxK
namespace Go.Proofs.YtkfbfgcflnkllaaGreatDoor.shatFlowers
open Go.ChangeShapes Go.WideShapes Go.ChangeAt Go.RowKit Go.Eng Go.ChangeMaps
set_option maxRecDepth 100000

theorem own : ownKnob Tryz.prog.godebug = none := by kernel_rfl
theorem uL : Tryz.prog.underlying 28 = some (.slice 3) := by kernel_rfl
theorem uP : Tryz.prog.underlying 75 = some (.array 2 28) := by kernel_rfl
theorem kids : Kids Tryz.prog (fun t => t = 28 ∨ t = 3 ∨ t = 75) := by
  refine ⟨fun h hu => ?_, fun h hu => ?_, fun h hu => ?_, fun h hu => ?_, fun h hu => ?_⟩
  · rcases h with rfl | rfl | rfl
    · rw [uL] at hu; cases hu
    · rw [Tryz.underlying3] at hu; cases hu
    · rw [uP] at hu; cases hu
  · rcases h with rfl | rfl | rfl
    · rw [uL] at hu; cases hu; exact .inr (.inl rfl)
    · rw [Tryz.underlying3] at hu; cases hu
    · rw [uP] at hu; cases hu
  · rcases h with rfl | rfl | rfl
    · rw [uL] at hu; cases hu
    · rw [Tryz.underlying3] at hu; cases hu
    · rw [uP] at hu; cases hu; exact ⟨.inl rfl, by kernel_rfl⟩
  · rcases h with rfl | rfl | rfl
    · rw [uL] at hu; cases hu
    · rw [Tryz.underlying3] at hu; cases hu
    · rw [uP] at hu; cases hu
  · rcases h with rfl | rfl | rfl
    · rw [uL] at hu; cases hu
    · rw [Tryz.underlying3] at hu; cases hu
    · rw [uP] at hu; cases hu
theorem sizes : ∀ {t e : TypeId}, (t = 28 ∨ t = 3 ∨ t = 75) → Tryz.prog.underlying t = some (.slice e) → 0 < Tryz.prog.cellsOf e := by
  intro t e h hu
  rcases h with rfl | rfl | rfl
  · rw [uL] at hu; cases hu; exact (by kernel_rfl : Tryz.prog.cellsOf 3 = 1) ▸ Nat.one_pos
  · rw [Tryz.underlying3] at hu; cases hu
  · rw [uP] at hu; cases hu
theorem stays {H : Type} {enc : TypeId × Value → H} {w w' : World} {sp : Nat → Bool} : ∀ {ts : List TypeId} {vs : List Value} {ds : List (DataW H)} {ps : List MemPlace}, (∀ t ∈ ts, t = 28 ∨ t = 3 ∨ t = 75) →
    DataW.TrodAll enc Tryz.prog w 0 (fun _ => true) true ts vs ds ps → (∀ p ∈ ps, w.sameAt w' p) → (∀ p ∈ ps, sp p.block = true) → DataW.TrodAll enc Tryz.prog w' 0 sp true ts vs ds ps
  | [], vs, ds, ps, _, h, _, _ => by
    obtain ⟨rfl, rfl, rfl⟩ := trodAll_nil h
    exact trodAll_mk0
  | t :: ts, vs, ds, ps, ht, h, h1, h2 => by
    obtain ⟨v, vs', d, ds', p, q, rfl, rfl, rfl, ⟨fuel, hf⟩, hr⟩ := trodAll_cons h
    exact trodAll_cons_mk ⟨fuel, DataW.trod_stays kids sizes (fun hh => by cases hh) (ht t (by simp)) hf (fun x hx => h1 x (List.mem_append_left _ hx)) (fun x hx => h2 x (List.mem_append_left _ hx))⟩
      (stays (fun u hu => ht u (by simp [hu])) hr (fun x hx => h1 x (List.mem_append_right _ hx)) (fun x hx => h2 x (List.mem_append_right _ hx)))

theorem walk {H : Type} {enc : TypeId × Value → H} {w : World} {base : Nat} (a0 : Int) {v1 : Value} {d1 : DataW H} {p1 : List MemPlace} {v2 : Value} {d2 : DataW H} {p2 : List MemPlace} (k1 : Value.okWide Tryz.prog w .any base 28 v1) (t1 : DataW.Trod enc Tryz.prog w 0 (fun _ => true) true 28 v1 d1 p1) (k2 : Value.okWide Tryz.prog w .any base 75 v2) (t2 : DataW.Trod enc Tryz.prog w 0 (fun _ => true) true 75 v2 d2 p2) : Calls Tryz.prog 8 #[.int .i64 a0, v1, v2] w fun e w' => e = .returned (.bool true) ∧ Below w.heap.size w w' := by
  have H0 := hpOK_all Tryz.prog w
  obtain ⟨E1, h1, xa1, xc1, zs1, H1, co1, sc1, rd1, wf1, len1, ag1, ex1⟩ := openIntsArgX H0 (fun _ hk => hk) k1 t1
  obtain ⟨Ep, hp, wa, wc, ws, ya, yc, ys, Hp, cop, scp, rdw, lw, rdy, wfy, ly, agp, exp⟩ := openPairArg H1 (fun _ hk => hk) k2 t2
  have co1 := (con_congr agp _ sc1).symm.trans co1
  have sc1 := sc_mono exp.next _ sc1
  have rd1 := rd1.ext exp
  obtain ⟨HH, e⟩ := said8 a0 zs1 len1 xa1 xc1 ws ys lw ly wa wc ya yc hp rd1 rdw rdy wfy
  have hc := calls_read orc_ok (by kernel_rfl) Hp e (by show (true && (sc _ _ && (sc _ _ && true))) = true; rw [sc1, scp]; rfl) rfl
  have ha : conL Ep [.int .i64 a0, .slice xa1 zs1.length xc1, .agg #[.slice wa ws.length wc, .slice ya ys.length yc]] = [.int .i64 a0, v1, v2] := by
    show [con Ep (.int .i64 a0), con Ep (.slice xa1 zs1.length xc1), con Ep (.agg #[.slice wa ws.length wc, .slice ya ys.length yc])] = _
    rw [co1, cop]
    rfl
  rw [ha] at hc
  exact hc

set_option maxRecDepth 100000 in
theorem lifted (os : Os) (started : os.Started) (H : Type) (enc : TypeId × Value → H) :
    ReturnsInHanded {} Tryz.checked os 8 .any (fun w args => (Rows.shatFlowersSpec.pre enc Tryz.prog Tryz.f8 Rows.shatFlowersRow.domain false w args ∧ laidMetH Tryz.prog Rows.shatFlowersRow.laid w) ∧ sizedMet enc Tryz.prog Tryz.f8 (OpenSpec.ofChange Rows.shatFlowersSpec) false w args)
      (Rows.shatFlowersSpec.post enc Tryz.prog Tryz.f8 false true false false) := by
  refine returnsInHanded_of_change_and (C := Tryz.checked) (X := fun w _ => laidMetH Tryz.prog Rows.shatFlowersRow.laid w) (fun _ _ _ hh h => h.of_heap hh) own started (by kernel_rfl) Tryz.func8
    (ChangeSpec.witness_shaped (enc := enc) (C := Tryz.checked) (os := os) (X := fun w _ => laidMetH Tryz.prog Rows.shatFlowersRow.laid w) false (World.laidAll Tryz.prog os Rows.shatFlowersRow.laid) #[.int .i64 0, .slice none 0 0, .agg #[.slice none 0 0, .slice none 0 0]] 8 (World.laidAll_os _ _ _)
      (World.shaped_of_ZipB (by kernel_rfl) (by kernel_rfl)) (by kernel_rfl) (by kernel_rfl) (by kernel_rfl)
      (by rw [MakeChecks.laidMetH_plain _ _ _ (by kernel_rfl)]; exact laidMet_laidAll _ (by kernel_rfl) (by kernel_rfl))) ?_
  intro W base args ds gs before hval0 hW _ _ _ _
  have hval : ∀ (j : Nat) t v, Tryz.f8.params[j]? = some t → args[j]? = some v → Value.okWide Tryz.prog W .any base t v := hval0
  have hW' := hW
  obtain ⟨p, q, hA0, hV, rfl, hfz, hnd⟩ := hW
  have hA : DataW.TrodAll enc Tryz.prog W 0 (fun _ => true) true Tryz.f8.params.toList args.toList ds p := hA0
  have hAll := hA
  rw [Tryz.params8] at hA hval
  obtain ⟨v0, vs0, d0, ds0, p0, q0, hargs, rfl, rfl, h0, r0⟩ := trodAll_cons hA
  obtain ⟨v1, vs1, d1, ds1, p1, q1, rfl, rfl, rfl, h1, r1⟩ := trodAll_cons r0
  obtain ⟨v2, vs2, d2, ds2, p2, q2, rfl, rfl, rfl, h2, r2⟩ := trodAll_cons r1
  obtain ⟨rfl, rfl, rfl⟩ := trodAll_nil r2
  obtain rfl : args = #[v0, v1, v2] := by cases args; simp_all
  obtain ⟨rfl, rfl⟩ := trodVars_none hV
  obtain ⟨a0, rfl, rfl, rfl, w0⟩ := open_int Tryz.underlying3 (hval 0 3 v0 rfl rfl) h0
  have hlt := DataW.TrodAll.lt hAll
  simp only [List.append_nil] at hW' hAll hlt
  refine (walk a0 (hval 1 28 v1 rfl rfl) h1 (hval 2 75 v2 rfl rfl) h2).mono fun e W' ⟨he, hg⟩ => ?_
  subst he
  refine ⟨_, rfl, post_of_below (pv := []) hW' (fun _ _ _ => (trodAll_cons_mk (shut_bool Tryz.underlying4 _) trodAll_mk0)) (fun sp hsp => ?_) (fun _ _ => rfl) (List.append_nil _).symm
    hg (ok_one (by kernel_rfl) rfl (okWide_bool_mk Tryz.underlying4 _))⟩
  exact stays (by rw [Tryz.params8]; decide) hAll (fun p hp => hg.same (hlt p hp)) hsp

theorem over : Rows.ShatFlowersSaid :=
  OpenClaim.holds_of_wide 8 Tryz.f8 rfl rfl rfl rfl rfl rfl rfl ⟨rfl, rfl, rfl, rfl, rfl⟩ rfl rfl rfl rfl rfl (by kernel_rfl) Tryz.func8 (by kernel_rfl)
    (of_decide_eq_true (by kernel_rfl)) (by unfold Func.isWrapper; first | (rw [if_pos (by decide +kernel)]; kernel_rfl) | (rw [if_neg (by decide +kernel)]; exact ⟨rfl, rfl⟩))
    (fun os started H enc _ => lifted os started H enc)

theorem proved : Rows.ShatFlowersCardSaid :=
  Claim7.holds_tied_plain_at .later [] [.data, .data, .data] true (true, "d328a2fa4f5dff29183116967c1406a68579ab20b23df562ec5de04eee5f71e4") true
    over (fun _ h => by cases h) (by kernel_rfl) (fun _ h => by cases h) shatFlowers_row_tie rfl ⟨rfl, rfl⟩ (by kernel_rfl) rfl
    (fun f fn hf hfn => by
      obtain rfl : f = 8 := Option.some.inj ((show Tryz.prog.funcNamed "stadda/staddalaw08.ShatFlowers" = some 8 by kernel_rfl).symm.trans hf) |>.symm
      obtain rfl : fn = Tryz.f8 := (Option.some.inj (Tryz.func8.symm.trans hfn)).symm
      exact ⟨by kernel_rfl, fun j t ht => by
        rw [Tryz.params8] at ht
        have h3 : t = 3 ∨ t = 28 ∨ t = 75 := by
          rcases j with _ | _ | _ | j
          · have h5 := (Option.some.inj ht).symm; subst h5; decide
          · have h5 := (Option.some.inj ht).symm; subst h5; decide
          · have h5 := (Option.some.inj ht).symm; subst h5; decide
          · simp at ht
        rcases h3 with rfl | rfl | rfl
        · exact (show Tryz.prog.wantsStandIn 3 = false by kernel_rfl)
        · exact (show Tryz.prog.wantsStandIn 28 = false by kernel_rfl)
        · exact (show Tryz.prog.wantsStandIn 75 = false by kernel_rfl)⟩)
    (by kernel_rfl)
end Go.Proofs.YtkfbfgcflnkllaaGreatDoor.shatFlowers
