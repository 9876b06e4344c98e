/- HeapMoves answers true, whatever the arguments. No condition but that the listed variables start as the program's text lays them. -/
import Derived.Test.YtegcmgjldapnmaaGreatDoorRows
import Derived.Test.YtegcmgjldapnmaaGreatDoorCards
import Derived.Test.YtegcmgjldapnmaaGreatDoorTie
import Derived.WalkKit
import Derived.ProofKit
import Derived.OpenShut
import Derived.LaidMore
import Derived.Lay
import Derived.ChangeStays
import Derived.SevenTiedAt
import Derived.Stop.Joined
import Derived.WideKeyPair
import Derived.ChangeMaps5
import Derived.Test.YtegcmgjldapnmaaGreatDoorMoQG
namespace Go.Proofs.YtegcmgjldapnmaaGreatDoor.heapMoves
open Go.ChangeShapes Go.WideShapes Go.ChangeAt Go.RowKit Go.Eng Go.ChangeMaps
set_option maxRecDepth 100000

theorem own : ownKnob Tryz.prog.godebug = none := by kernel_rfl
theorem uL : Tryz.prog.underlying 22 = some (.slice 3) := by kernel_rfl
theorem TS : Tryz.prog.underlying 9 = some .string := by kernel_rfl
theorem kids : Kids Tryz.prog (fun t => t = 22 ∨ t = 3 ∨ t = 9) := by
  refine ⟨fun h hu => ?_, fun h hu => ?_, fun h hu => ?_, fun h hu => ?_, fun h hu => ?_⟩
  · rcases h with rfl | rfl | rfl
    · rw [uL] at hu; cases hu
    · rw [Tryz.underlying3] at hu; cases hu
    · rw [TS] at hu; cases hu
  · rcases h with rfl | rfl | rfl
    · rw [uL] at hu; cases hu; exact .inr (.inl rfl)
    · rw [Tryz.underlying3] at hu; cases hu
    · rw [TS] at hu; cases hu
  · rcases h with rfl | rfl | rfl
    · rw [uL] at hu; cases hu
    · rw [Tryz.underlying3] at hu; cases hu
    · rw [TS] at hu; cases hu
  · rcases h with rfl | rfl | rfl
    · rw [uL] at hu; cases hu
    · rw [Tryz.underlying3] at hu; cases hu
    · rw [TS] at hu; cases hu
  · rcases h with rfl | rfl | rfl
    · rw [uL] at hu; cases hu
    · rw [Tryz.underlying3] at hu; cases hu
    · rw [TS] at hu; cases hu
theorem sizes : ∀ {t e : TypeId}, (t = 22 ∨ t = 3 ∨ t = 9) → Tryz.prog.underlying t = some (.slice e) → 0 < Tryz.prog.cellsOf e := by
  intro t e h hu
  rcases h with rfl | rfl | rfl
  · rw [uL] at hu; cases hu; exact (by kernel_rfl : Tryz.prog.cellsOf 3 = 1) ▸ Nat.one_pos
  · rw [Tryz.underlying3] at hu; cases hu
  · rw [TS] at hu; cases hu
theorem stays {H : Type} {enc : TypeId × Value → H} {w w' : World} {sp : Nat → Bool} : ∀ {ts : List TypeId} {vs : List Value} {ds : List (DataW H)} {ps : List MemPlace}, (∀ t ∈ ts, t = 22 ∨ t = 3 ∨ t = 9) →
    DataW.TrodAll enc Tryz.prog w 0 (fun _ => true) true ts vs ds ps → (∀ p ∈ ps, w.sameAt w' p) → (∀ p ∈ ps, sp p.block = true) → DataW.TrodAll enc Tryz.prog w' 0 sp true ts vs ds ps
  | [], vs, ds, ps, _, h, _, _ => by
    obtain ⟨rfl, rfl, rfl⟩ := trodAll_nil h
    exact trodAll_mk0
  | t :: ts, vs, ds, ps, ht, h, h1, h2 => by
    obtain ⟨v, vs', d, ds', p, q, rfl, rfl, rfl, ⟨fuel, hf⟩, hr⟩ := trodAll_cons h
    exact trodAll_cons_mk ⟨fuel, DataW.trod_stays kids sizes (fun hh => by cases hh) (ht t (by simp)) hf (fun x hx => h1 x (List.mem_append_left _ hx)) (fun x hx => h2 x (List.mem_append_left _ hx))⟩
      (stays (fun u hu => ht u (by simp [hu])) hr (fun x hx => h1 x (List.mem_append_right _ hx)) (fun x hx => h2 x (List.mem_append_right _ hx)))

theorem walk {H : Type} {enc : TypeId × Value → H} {w : World} {base : Nat} (s0 : ByteArray) {v1 : Value} {d1 : DataW H} {p1 : List MemPlace} (k : Value.okWide Tryz.prog w .any base 22 v1) (t : DataW.Trod enc Tryz.prog w 0 (fun _ => true) true 22 v1 d1 p1) : Calls Tryz.prog 3 #[.string s0, v1] w fun e w' => e = .returned (.bool true) ∧ Below w.heap.size w w' := by
  obtain ⟨l0, rfl, hl0⟩ := strL_of s0
  have H0 := hpOK_all Tryz.prog w
  obtain ⟨E, h, xa, xc, zs, H1, co, scv, rd, wf, len⟩ := openIntsArg H0 (fun _ hk => hk) k t
  obtain ⟨HH, e⟩ := said3 l0 hl0 zs len xa xc h rd wf
  have hc := calls_read orc_ok (by kernel_rfl) H1 e (by simp only [scL, sc, Bool.and_true, Bool.true_and]; exact scv) rfl
  have ha : conL E [.string (strL l0), .slice xa zs.length xc] = [.string (strL l0), v1] := by
    show [con E (.string (strL l0)), con E (.slice xa zs.length xc)] = _
    rw [co]
    rfl
  rw [ha] at hc
  exact hc

set_option maxRecDepth 100000 in
theorem lifted (os : Os) (started : os.Started) (H : Type) (enc : TypeId × Value → H) :
    ReturnsInHanded {} Tryz.checked os 3 .any (fun w args => (Rows.heapMovesSpec.pre enc Tryz.prog Tryz.f3 Rows.heapMovesRow.domain false w args ∧ laidMetH Tryz.prog Rows.heapMovesRow.laid w) ∧ sizedMet enc Tryz.prog Tryz.f3 (OpenSpec.ofChange Rows.heapMovesSpec) false w args)
      (Rows.heapMovesSpec.post enc Tryz.prog Tryz.f3 false true false false) := by
  refine returnsInHanded_of_change_and (C := Tryz.checked) (X := fun w _ => laidMetH Tryz.prog Rows.heapMovesRow.laid w) (fun _ _ _ hh h => h.of_heap hh) own started (by kernel_rfl) Tryz.func3
    (ChangeSpec.witness_shaped (enc := enc) (C := Tryz.checked) (os := os) (X := fun w _ => laidMetH Tryz.prog Rows.heapMovesRow.laid w) false (World.laidAll Tryz.prog os Rows.heapMovesRow.laid) #[.string .empty, .slice none 0 0] 8 (World.laidAll_os _ _ _)
      (World.shaped_of_ZipB (by kernel_rfl) (by kernel_rfl)) (by kernel_rfl) (by kernel_rfl) (by kernel_rfl)
      (by rw [MakeChecks.laidMetH_plain _ _ _ (by kernel_rfl)]; exact laidMet_laidAll _ (by kernel_rfl) (by kernel_rfl))) ?_
  intro W base args ds gs before hval0 hW _ _ _ _
  have hval : ∀ (j : Nat) t v, Tryz.f3.params[j]? = some t → args[j]? = some v → Value.okWide Tryz.prog W .any base t v := hval0
  have hW' := hW
  obtain ⟨p, q, hA0, hV, rfl, hfz, hnd⟩ := hW
  have hA : DataW.TrodAll enc Tryz.prog W 0 (fun _ => true) true Tryz.f3.params.toList args.toList ds p := hA0
  have hAll := hA
  rw [Tryz.params3] at hA hval
  obtain ⟨v0, vs0, d0, ds0, p0, q0, hargs, rfl, rfl, h0, r0⟩ := trodAll_cons hA
  obtain ⟨v1, vs1, d1, ds1, p1, q1, rfl, rfl, rfl, h1, r1⟩ := trodAll_cons r0
  obtain ⟨rfl, rfl, rfl⟩ := trodAll_nil r1
  obtain rfl : args = #[v0, v1] := by cases args; simp_all
  obtain ⟨rfl, rfl⟩ := trodVars_none hV
  obtain ⟨s0, rfl, rfl, rfl, w0⟩ := open_string TS (hval 0 9 v0 rfl rfl) h0
  have hlt := DataW.TrodAll.lt hAll
  simp only [List.append_nil] at hW' hAll hlt
  refine (walk s0 (hval 1 22 v1 rfl rfl) h1).mono fun e W' ⟨he, hg⟩ => ?_
  subst he
  refine ⟨_, rfl, post_of_below (pv := []) hW' (fun _ _ _ => (trodAll_cons_mk (shut_bool Tryz.underlying4 _) trodAll_mk0)) (fun sp hsp => ?_) (fun _ _ => rfl) (List.append_nil _).symm
    hg (ok_one (by kernel_rfl) rfl (okWide_bool_mk Tryz.underlying4 _))⟩
  exact stays (by rw [Tryz.params3]; decide) hAll (fun p hp => hg.same (hlt p hp)) hsp

theorem over : Rows.HeapMovesSaid :=
  OpenClaim.holds_of_wide 3 Tryz.f3 rfl rfl rfl rfl rfl rfl rfl ⟨rfl, rfl, rfl, rfl, rfl⟩ rfl rfl rfl rfl rfl (by kernel_rfl) Tryz.func3 (by kernel_rfl)
    (of_decide_eq_true (by kernel_rfl)) (by unfold Func.isWrapper; first | (rw [if_pos (by decide +kernel)]; kernel_rfl) | (rw [if_neg (by decide +kernel)]; exact ⟨rfl, rfl⟩))
    (fun os started H enc _ => lifted os started H enc)

theorem proved : Rows.HeapMovesCardSaid :=
  Claim7.holds_tied_plain_at .later [] [.data, .pinned] true (true, "48bd360ebf7591ab6e58e5b3985a95c5f114a8d627fef2e0899d864b1e3bbe9d") false
    over (fun _ h => by cases h) (by kernel_rfl) (fun _ h => by cases h) heapMoves_row_tie rfl ⟨rfl, rfl⟩ (by kernel_rfl) rfl
    (fun f fn hf hfn => by
      obtain rfl : f = 3 := Option.some.inj ((show Tryz.prog.funcNamed "stadda/staddalaw06.HeapMoves" = some 3 by kernel_rfl).symm.trans hf) |>.symm
      obtain rfl : fn = Tryz.f3 := (Option.some.inj (Tryz.func3.symm.trans hfn)).symm
      exact ⟨by kernel_rfl, fun j t ht => by
        rw [Tryz.params3] at ht
        have h3 : t = 9 ∨ t = 22 := by
          rcases j with _ | _ | j
          · have h5 := (Option.some.inj ht).symm; subst h5; decide
          · have h5 := (Option.some.inj ht).symm; subst h5; decide
          · simp at ht
        rcases h3 with rfl | rfl
        · exact (show Tryz.prog.wantsStandIn 9 = false by kernel_rfl)
        · exact (show Tryz.prog.wantsStandIn 22 = false by kernel_rfl)⟩)
    (by kernel_rfl)
end Go.Proofs.YtegcmgjldapnmaaGreatDoor.heapMoves
