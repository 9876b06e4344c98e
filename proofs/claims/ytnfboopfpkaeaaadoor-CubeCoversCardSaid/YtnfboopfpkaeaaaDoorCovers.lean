/- CubeCovers answers true, whatever the number, the two choices and the list of pairs. No condition but that the listed variables start as the program's text lays them: the prime implicants of any table of up to four bits, a cover of as few as possible, whether any list is a cover, where it is not rising, and the first twin are the reference's. -/
import Derived.Test.YtnfboopfpkaeaaaDoorRows
import Derived.Test.YtnfboopfpkaeaaaDoorCards
import Derived.Test.YtnfboopfpkaeaaaDoorTie
import Derived.WalkKit
import Derived.ProofKit
import Derived.OpenShut
import Derived.LaidMore
import Derived.Lay
import Derived.SevenTiedAt
import Derived.Stop.Joined
import Derived.WideKeyPair
import Derived.ChangeStays
import Derived.ChangeBears
import Derived.Test.YtnfboopfpkaeaaaDoorPrimQB
import Derived.Test.YtnfboopfpkaeaaaDoorCovQD
namespace Go.Proofs.YtnfboopfpkaeaaaDoor.cubeCovers
open Go.ChangeShapes Go.WideShapes Go.ChangeAt Go.RowKit Go.Eng
set_option maxRecDepth 100000

theorem own : ownKnob Tryd.prog.godebug = none := by kernel_rfl
theorem T22 : Tryd.prog.underlying 22 = some (.int .u64) := by kernel_rfl
theorem A23 : Go.WideMaps.ArrKey Tryd.prog 23 3 2 := ⟨by kernel_rfl, by kernel_rfl, by kernel_rfl, by kernel_rfl⟩
theorem kids : Kids Tryd.prog (· < Tryd.prog.types.size) := kids_rows (by kernel_rfl) (by kernel_rfl)
theorem sizes : ∀ {t e : TypeId}, t < Tryd.prog.types.size → Tryd.prog.underlying t = some (.slice e) → 0 < Tryd.prog.cellsOf e := by
  have h : ((List.range Tryd.prog.types.size).all fun t => match Tryd.prog.underlying t with
    | some (.slice e) => Nat.blt 0 (Tryd.prog.cellsOf e)
    | _ => true) = true := by kernel_rfl
  intro t e ht hu
  rw [List.all_eq_true] at h
  have := h t (List.mem_range.2 ht)
  rw [hu] at this
  exact Nat.le_of_ble_eq_true this
theorem stays {H : Type} {enc : TypeId × Value → H} {w w' : World} {sp : Nat → Bool} : ∀ {ts : List TypeId} {vs : List Value} {ds : List (DataW H)} {ps : List MemPlace}, (∀ t ∈ ts, t < Tryd.prog.types.size) →
    DataW.TrodAll enc Tryd.prog w 0 (fun _ => true) true ts vs ds ps → (∀ p ∈ ps, w.sameAt w' p) → (∀ p ∈ ps, sp p.block = true) → DataW.TrodAll enc Tryd.prog w' 0 sp true ts vs ds ps
  | [], vs, ds, ps, _, h, _, _ => by
    obtain ⟨rfl, rfl, rfl⟩ := trodAll_nil h
    exact trodAll_mk0
  | t :: ts, vs, ds, ps, ht, h, h1, h2 => by
    obtain ⟨v, vs', d, ds', p, q, rfl, rfl, rfl, ⟨fuel, hf⟩, hr⟩ := trodAll_cons h
    exact trodAll_cons_mk ⟨fuel, DataW.trod_stays kids sizes (fun hh => by cases hh) (ht t (by simp)) hf (fun x hx => h1 x (List.mem_append_left _ hx)) (fun x hx => h2 x (List.mem_append_left _ hx))⟩
      (stays (fun u hu => ht u (by simp [hu])) hr (fun x hx => h1 x (List.mem_append_right _ hx)) (fun x hx => h2 x (List.mem_append_right _ hx)))
theorem gsz : Tryd.prog.globals.size = 2 := by kernel_rfl

theorem walk {H : Type} {enc : TypeId × Value → H} {base : Nat} {v2 : Value} {d2 : DataW H} {p2 : List MemPlace} (x a0 a1 : Int) (w : World) (k2 : Value.okWide Tryd.prog w .any base 27 v2) (t2 : DataW.Trod enc Tryd.prog w 0 (fun _ => true) true 27 v2 d2 p2) (hL : laidMetH Tryd.prog Rows.cubeCoversRow.laid w) :
    Calls Tryd.prog 4 #[.int .u64 x, .agg #[.int .i64 a0, .int .i64 a1], v2] w fun e w' => e = .returned (.bool true) ∧ Below w.heap.size w w' := by
  obtain ⟨arr, e, fz, hb, hc⟩ := tab_cells (by rw [show Rows.cubePrimesRow.laid = Rows.cubeCoversRow.laid by kernel_rfl]; exact hL)
  have H0 := hpOK_all Tryd.prog w
  have hlt : 1 < w.heap.size := (Array.getElem?_eq_some_iff.1 hb).1
  have hlen : dbj.length = 64 := by kernel_rfl
  have H1 := setRo (g := 1) (cs := dbj.map fun n => Value.int .u8 (Int.ofNat n)) (e := e) H0 (by rw [gsz]; decide) hlt hb (fun i v hv => by
    rw [List.getElem?_map] at hv
    have hi : i < dbj.length := by
      rcases Nat.lt_or_ge i dbj.length with h | h
      · exact h
      · rw [List.getElem?_eq_none h] at hv; cases hv
    rw [List.getElem?_eq_getElem hi] at hv
    cases hv
    rw [hc i (by omega), List.getD, List.getElem?_eq_getElem hi]
    rfl) (by kernel_rfl) (fun v hv => by
      obtain ⟨n, _, rfl⟩ := List.mem_map.1 hv
      rfl) (fun j o ho => by cases ho)
  have hT : Tab ((⟨.nil, Tryd.prog.globals.size⟩ : Hp).put 1 (.ro 0 (dbj.map fun n => Value.int .u8 (Int.ofNat n)) e)) := ⟨show 1 < Tryd.prog.globals.size by rw [gsz]; decide, e, get_put _ _ _⟩
  generalize (⟨.nil, Tryd.prog.globals.size⟩ : Hp).put 1 (.ro 0 (dbj.map fun n => Value.int .u8 (Int.ofNat n)) e) = h0 at H1 hT
  obtain ⟨fuel, ht⟩ := t2
  have hsl : ∃ a l c, v2 = .slice a l c := by
    unfold Value.okWide at k2
    rw [u27] at k2
    simp only [Cell.okWide, u27, Cell.ok] at k2
    cases v2 <;> first | exact ⟨_, _, _, rfl⟩ | simp at k2
  have hcells : v2.cells.toList = [v2] := by obtain ⟨a, l, c, rfl⟩ := hsl; rfl
  rw [hcells] at ht
  obtain ⟨E', h', va, vc, l, H2, hcon, hsc, hlen, hr, X, hrd, hcut⟩ := openPairs H1 (fun _ hk => hk) ht
  obtain ⟨HH, ev⟩ := said4 x a0 a1 l hlen hr va vc h' (hT.ext X) hrd hcut
  have hc2 := calls_read orc_ok (by kernel_rfl) H2 ev (by simp only [scL, hsc, Bool.and_true]; rfl) rfl
  have ha : conL E' [.int .u64 x, .agg #[.int .i64 a0, .int .i64 a1], .slice va l.length vc] = [.int .u64 x, .agg #[.int .i64 a0, .int .i64 a1], v2] := by
    rw [conL_eq]
    simp [hcon, con, conA, conL]
  rw [ha] at hc2
  exact hc2

set_option maxRecDepth 100000 in
theorem lifted (os : Os) (started : os.Started) (H : Type) (enc : TypeId × Value → H) :
    ReturnsInHanded {} Tryd.checked os 4 .any (fun w args => (Rows.cubeCoversSpec.pre enc Tryd.prog Tryd.f4 Rows.cubeCoversRow.domain false w args ∧ laidMetH Tryd.prog Rows.cubeCoversRow.laid w) ∧ sizedMet enc Tryd.prog Tryd.f4 (OpenSpec.ofChange Rows.cubeCoversSpec) false w args)
      (Rows.cubeCoversSpec.post enc Tryd.prog Tryd.f4 false true false false) := by
  refine returnsInHanded_of_change_and (C := Tryd.checked) (X := fun w _ => laidMetH Tryd.prog Rows.cubeCoversRow.laid w) (fun _ _ _ hh h => h.of_heap hh) own started (by kernel_rfl) Tryd.func4
    (ChangeSpec.witness_shaped (enc := enc) (C := Tryd.checked) (os := os) (X := fun w _ => laidMetH Tryd.prog Rows.cubeCoversRow.laid w) false (World.laidAll Tryd.prog os Rows.cubeCoversRow.laid) #[.int .u64 0, .agg #[.int .i64 0, .int .i64 0], .slice none 0 0] 8 (World.laidAll_os _ _ _)
      (World.shaped_of_ZipB (by kernel_rfl) (by kernel_rfl)) (by kernel_rfl) (by kernel_rfl) (by kernel_rfl)
      (by rw [MakeChecks.laidMetH_plain _ _ _ (by kernel_rfl)]; exact laidMet_laidAll _ (by kernel_rfl) (by kernel_rfl))) ?_
  intro W base args ds gs before hval0 hW _ _ hL _
  have hval : ∀ (j : Nat) t v, Tryd.f4.params[j]? = some t → args[j]? = some v → Value.okWide Tryd.prog W .any base t v := hval0
  have hW' := hW
  obtain ⟨p, q, hA0, hV, rfl, hfz, hnd⟩ := hW
  have hA : DataW.TrodAll enc Tryd.prog W 0 (fun _ => true) true Tryd.f4.params.toList args.toList ds p := hA0
  have hAll := hA
  rw [Tryd.params4] at hA hval
  obtain ⟨v0, vs0, d0, ds0, p0, q0, hargs, rfl, rfl, h0, r0⟩ := trodAll_cons hA
  obtain ⟨v1, vs1, d1, ds1, p1, q1, rfl, rfl, rfl, h1, r1⟩ := trodAll_cons r0
  obtain ⟨v2, vs2, d2, ds2, p2, q2, rfl, rfl, rfl, h2, r2⟩ := trodAll_cons r1
  obtain ⟨rfl, rfl, rfl⟩ := trodAll_nil r2
  obtain rfl : args = #[v0, v1, v2] := by cases args; simp_all
  obtain ⟨rfl, rfl⟩ := trodVars_none hV
  obtain ⟨x, rfl, rfl, rfl, w0⟩ := open_int T22 (hval 0 22 v0 rfl rfl) h0
  obtain ⟨a, b, rfl, rfl, rfl, wa, wb⟩ := Go.WideMaps.open_pair A23 Tryd.underlying3 (hval 1 23 v1 rfl rfl) h1
  have hlt := DataW.TrodAll.lt hAll
  simp only [List.append_nil] at hW' hAll hlt
  refine (walk x a b W (hval 2 27 v2 rfl rfl) h2 hL).mono fun e W' ⟨he, hg⟩ => ?_
  subst he
  refine ⟨_, rfl, post_of_below (pv := []) hW' (fun _ _ _ => (trodAll_cons_mk (shut_bool Tryd.underlying4 _) trodAll_mk0)) (fun sp hsp => ?_) (fun _ _ => rfl) (List.append_nil _).symm
    hg (ok_one (by kernel_rfl) rfl (okWide_bool_mk Tryd.underlying4 _))⟩
  exact stays (fun t ht => by
    have h : (Tryd.f4.params.toList.all fun t => Nat.blt t Tryd.prog.types.size) = true := by kernel_rfl
    rw [List.all_eq_true] at h
    exact Nat.le_of_ble_eq_true (h t ht)) hAll (fun p hp => hg.same (hlt p hp)) hsp

theorem over : Rows.CubeCoversSaid :=
  OpenClaim.holds_of_wide 4 Tryd.f4 rfl rfl rfl rfl rfl rfl rfl ⟨rfl, rfl, rfl, rfl, rfl⟩ rfl rfl rfl rfl rfl (by kernel_rfl) Tryd.func4 (by kernel_rfl)
    (of_decide_eq_true (by kernel_rfl)) (by unfold Func.isWrapper; first | (rw [if_pos (by decide +kernel)]; kernel_rfl) | (rw [if_neg (by decide +kernel)]; exact ⟨rfl, rfl⟩))
    (fun os started H enc _ => lifted os started H enc)

theorem proved : Rows.CubeCoversCardSaid :=
  Claim7.holds_tied_plain_at .later [] [.data, .data] true (true, "b42953e08632e99bab6dd79976ed08b154328ace0c8acb352b03a8ec673afe08") false
    over (fun _ h => by cases h) (by kernel_rfl) (fun _ h => by cases h) cubeCovers_row_tie rfl ⟨rfl, rfl⟩ (by kernel_rfl) rfl
    (fun f fn hf hfn => by
      obtain rfl : f = 4 := Option.some.inj ((show Tryd.prog.funcNamed "stadda/staddalaw07.CubeCovers" = some 4 by kernel_rfl).symm.trans hf) |>.symm
      obtain rfl : fn = Tryd.f4 := (Option.some.inj (Tryd.func4.symm.trans hfn)).symm
      exact ⟨by kernel_rfl, fun j t ht => by
        rw [Tryd.params4] at ht
        rcases j with _ | _ | _ | j
        · have h3 : t = 22 := by simpa using ht.symm
          subst h3
          exact (show Tryd.prog.wantsStandIn 22 = false by kernel_rfl)
        · have h3 : t = 23 := by simpa using ht.symm
          subst h3
          exact (show Tryd.prog.wantsStandIn 23 = false by kernel_rfl)
        · have h3 : t = 27 := by simpa using ht.symm
          subst h3
          exact (show Tryd.prog.wantsStandIn 27 = false by kernel_rfl)
        · simp at ht⟩)
    (by kernel_rfl)
#print axioms proved
end Go.Proofs.YtnfboopfpkaeaaaDoor.cubeCovers
