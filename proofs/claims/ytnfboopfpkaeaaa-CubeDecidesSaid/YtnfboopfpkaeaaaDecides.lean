/- CubeDecides answers true, whatever the number, the three choices and the tree (one without a ring, as the statement says). No other condition: the depth of any table of up to five bits is the reference's, the program's tree has that depth and finds the table, and whether a tree finds it is what the reference says. -/
import Derived.Test.YtnfboopfpkaeaaaRows
import Derived.WalkKit
import Derived.ProofKit
import Derived.OpenShut
import Derived.ChangeStays
import Derived.ChangeBears
import Derived.WideKeyPair
import Derived.Test.YtnfboopfpkaeaaaCubeQB
import Derived.Test.YtnfboopfpkaeaaaDecQC
namespace Go.Proofs.Ytnfboopfpkaeaaa.cubeDecides
open Go.ChangeShapes Go.WideShapes Go.ChangeAt Go.RowKit Go.Eng
set_option maxRecDepth 100000
set_option linter.unusedVariables false      -- a walk need not use every 'w<i>' (that an integer argument fits its kind)

theorem own : ownKnob Try.prog.godebug = none := by kernel_rfl
theorem T22 : Try.prog.underlying 22 = some (.int .u64) := by kernel_rfl
theorem A23 : Go.WideMaps.ArrKey Try.prog 23 3 3 := ⟨by kernel_rfl, by kernel_rfl, by kernel_rfl, by kernel_rfl⟩
theorem open_three {H : Type} {enc : TypeId × Value → H} {P : Program} {k e : TypeId} {q : IntKind} {W : World} {base : Nat} {sp : Nat → Bool} {held : Bool} (A : Go.WideMaps.ArrKey P k e 3) (he : P.underlying e = some (.int q)) {r : Reach} {b0 : Nat} {v : Value} {d : DataW H} {ps : List MemPlace} (hval : Value.okWide P W r b0 k v) (hd : DataW.Trod enc P W base sp held k v d ps) :
    ∃ a b c : Int, v = .agg #[.int q a, .int q b, .int q c] ∧ ps = [] := by
  obtain ⟨c0, c1, c2, rfl⟩ : ∃ c0 c1 c2, v = .agg #[c0, c1, c2] := by
    simp only [Value.okWide, A.hu] at hval
    obtain ⟨cs, h1, h2, _⟩ := hval
    rw [A.size] at h2
    obtain ⟨l⟩ := cs
    match l, h2 with
    | [c0, c1, c2], _ => exact ⟨c0, c1, c2, h1⟩
  obtain ⟨fuel, hf⟩ := hd
  cases fuel with
  | zero => simp [DataW.trod] at hf
  | succ n =>
    rw [DataW.trod_step] at hf
    unfold DataW.trodStep at hf
    simp only [A.hu, Value.cells] at hf
    rw [if_pos (by rw [A.size]; rfl)] at hf
    simp only [Option.map_eq_some_iff] at hf
    obtain ⟨xs, hx, e1⟩ := hf
    rw [show List.range 3 = [0, 1, 2] from rfl, List.mapM_cons, List.mapM_cons, List.mapM_cons, List.mapM_nil] at hx
    simp only [bind, Option.bind_eq_some_iff, pure, Option.some.injEq, A.one] at hx
    obtain ⟨y0, h0, _, ⟨y1, h1, _, ⟨y2, h2, _, rfl, rfl⟩, rfl⟩, rfl⟩ := hx
    obtain ⟨a, ea, rfl, wa⟩ := DataW.trod_int he h0
    obtain ⟨b, eb, rfl, wb⟩ := DataW.trod_int he h1
    obtain ⟨c, ec, rfl, wc⟩ := DataW.trod_int he h2
    simp at ea eb ec
    subst ea; subst eb; subst ec
    simp only [Prod.mk.injEq] at e1
    exact ⟨a, b, c, rfl, by rw [← e1.2]; rfl⟩
theorem kids : Kids Try.prog (· < Try.prog.types.size) := kids_rows (by kernel_rfl) (by kernel_rfl)
theorem sizes : ∀ {t e : TypeId}, t < Try.prog.types.size → Try.prog.underlying t = some (.slice e) → 0 < Try.prog.cellsOf e := by
  have h : ((List.range Try.prog.types.size).all fun t => match Try.prog.underlying t with
    | some (.slice e) => Nat.blt 0 (Try.prog.cellsOf e)
    | _ => true) = true := by kernel_rfl
  intro t e ht hu
  rw [List.all_eq_true] at h
  have := h t (List.mem_range.2 ht)
  rw [hu] at this
  exact Nat.le_of_ble_eq_true this
theorem stays {H : Type} {enc : TypeId × Value → H} {w w' : World} {sp : Nat → Bool} : ∀ {ts : List TypeId} {vs : List Value} {ds : List (DataW H)} {ps : List MemPlace}, (∀ t ∈ ts, t < Try.prog.types.size) →
    DataW.TrodAll enc Try.prog w 0 (fun _ => true) true ts vs ds ps → (∀ p ∈ ps, w.sameAt w' p) → (∀ p ∈ ps, sp p.block = true) → DataW.TrodAll enc Try.prog w' 0 sp true ts vs ds ps
  | [], vs, ds, ps, _, h, _, _ => by
    obtain ⟨rfl, rfl, rfl⟩ := trodAll_nil h
    exact trodAll_mk0
  | t :: ts, vs, ds, ps, ht, h, h1, h2 => by
    obtain ⟨v, vs', d, ds', p, q, rfl, rfl, rfl, ⟨fuel, hf⟩, hr⟩ := trodAll_cons h
    exact trodAll_cons_mk ⟨fuel, DataW.trod_stays kids sizes (fun hh => by cases hh) (ht t (by simp)) hf (fun x hx => h1 x (List.mem_append_left _ hx)) (fun x hx => h2 x (List.mem_append_left _ hx))⟩
      (stays (fun u hu => ht u (by simp [hu])) hr (fun x hx => h1 x (List.mem_append_right _ hx)) (fun x hx => h2 x (List.mem_append_right _ hx)))

theorem walk {H : Type} {enc : TypeId × Value → H} {w : World} {base : Nat} {v2 : Value} {d2 : DataW H} {p2 : List MemPlace} (x a b c : Int) (k2 : Value.okWide Try.prog w .any base 26 v2) (t2 : DataW.Trod enc Try.prog w 0 (fun _ => true) true 26 v2 d2 p2) :
    Calls Try.prog 3 #[.int .u64 x, .agg #[.int .i64 a, .int .i64 b, .int .i64 c], v2] w fun e w' => e = .returned (.bool true) ∧ Below w.heap.size w w' := by
  have H0 := hpOK_all Try.prog w
  obtain ⟨fuel, ht⟩ := t2
  have hag : ∃ cs, v2 = .agg cs := by
    have hu : Try.prog.underlying 26 = some (.struct (Try.prog.fieldsOf 26)) := by kernel_rfl
    simp only [Value.okWide, hu] at k2
    obtain ⟨cs, h1, _⟩ := k2
    exact ⟨cs, h1⟩
  obtain ⟨⟨cs⟩, rfl⟩ := hag
  obtain ⟨E', h', zs, t, L, H1, _, _, hc, hs, _, hK, he⟩ := openTree (fun _ hk => hk) 4 H0 ht
  obtain ⟨y0, y1, y2, q, rfl, S, hq⟩ := he
  have hq : q = [] := hq
  subst hq
  obtain ⟨HH, e⟩ := s3 x a b c 300 (upD 0) h' L _ t hK S
  have hc' : conL E' [y0, y1, y2] = cs := hc
  have hcr := calls_read orc_ok (by kernel_rfl) H1 e (by simp only [scL, sc, scA, Bool.and_true, Bool.true_and]; simpa only [scL, Bool.and_true] using hs) rfl
  have ha : conL E' [.int .u64 x, .agg #[.int .i64 a, .int .i64 b, .int .i64 c], .agg #[y0, y1, y2]] = [.int .u64 x, .agg #[.int .i64 a, .int .i64 b, .int .i64 c], .agg ⟨cs⟩] := by
    rw [← hc']
    simp only [conL, con, conA]
  rw [ha] at hcr
  exact hcr

set_option maxRecDepth 100000 in
theorem lifted (os : Os) (started : os.Started) (H : Type) (enc : TypeId × Value → H) :
    ReturnsInHanded {} Try.checked os 3 .any (Rows.cubeDecidesSpec.pre6 enc Try.prog Try.f3 Rows.cubeDecidesRow.domain false) (Rows.cubeDecidesSpec.post enc Try.prog Try.f3 false true false false) := by
  refine returnsInHanded_of_change (C := Try.checked) own started (by kernel_rfl) Try.func3
    (ChangeSpec.witness6 (enc := enc) (C := Try.checked) false ⟨#[], #[.int .u64 0, .agg #[.int .i64 0, .int .i64 0, .int .i64 0], .agg #[.int .i64 0, .bool false, .slice none 0 0]], []⟩ 8 (by kernel_rfl) (by kernel_rfl) (by kernel_rfl) (by kernel_rfl)) ?_
  intro W base args ds gs before hval0 hW hcnd _
  have hval : ∀ (j : Nat) t v, Try.f3.params[j]? = some t → args[j]? = some v → Value.okWide Try.prog W .any base t v := hval0
  have hW' := hW
  obtain ⟨p, q, hA0, hV, rfl, hfz, hnd⟩ := hW
  have hA : DataW.TrodAll enc Try.prog W 0 (fun _ => true) true Try.f3.params.toList args.toList ds p := hA0
  have hAll := hA
  rw [Try.params3] at hA hval
  obtain ⟨v0, vs0, d0, ds0, p0, q0, hargs, rfl, rfl, h0, r0⟩ := trodAll_cons hA
  obtain ⟨v1, vs1, d1, ds1, p1, q1, rfl, rfl, rfl, h1, r1⟩ := trodAll_cons r0
  obtain ⟨v2, vs2, d2, ds2, p2, q2, rfl, rfl, rfl, h2, r2⟩ := trodAll_cons r1
  obtain ⟨rfl, rfl, rfl⟩ := trodAll_nil r2
  obtain rfl : args = #[v0, v1, v2] := by cases args; simp_all
  obtain ⟨rfl, rfl⟩ := trodVars_none hV
  obtain ⟨x, rfl, rfl, rfl, w0⟩ := open_int T22 (hval 0 22 v0 rfl rfl) h0
  obtain ⟨a, b, c, rfl, rfl⟩ := open_three A23 Try.underlying3 (hval 1 23 v1 rfl rfl) h1
  have hlt := DataW.TrodAll.lt hAll
  simp only [List.append_nil] at hW' hAll hlt
  refine (walk x a b c (hval 2 26 v2 rfl rfl) h2).mono fun e W' ⟨he, hg⟩ => ?_
  subst he
  refine ⟨_, rfl, post_of_below (pv := []) hW' (fun _ _ _ => (trodAll_cons_mk (shut_bool Try.underlying4 _) trodAll_mk0)) (fun sp hsp => ?_) (fun _ _ => rfl) (List.append_nil _).symm
    hg (ok_one (by kernel_rfl) rfl (okWide_bool_mk Try.underlying4 _))⟩
  exact stays (fun t ht => by
    have h : (Try.f3.params.toList.all fun t => Nat.blt t Try.prog.types.size) = true := by kernel_rfl
    rw [List.all_eq_true] at h
    exact Nat.le_of_ble_eq_true (h t ht)) hAll (fun p hp => hg.same (hlt p hp)) hsp

theorem over : Rows.cubeDecidesRow.holds Try.pinned (OpenSpec.ofChange Rows.cubeDecidesSpec) :=
  OpenClaim.holds_of_wide 3 Try.f3 rfl rfl rfl rfl rfl rfl rfl ⟨rfl, rfl, rfl, rfl, rfl⟩ rfl rfl rfl rfl rfl (by kernel_rfl) Try.func3 (by kernel_rfl)
    (of_decide_eq_true (by kernel_rfl)) (by unfold Func.isWrapper; first | (rw [if_pos (by decide +kernel)]; kernel_rfl) | (rw [if_neg (by decide +kernel)]; exact ⟨rfl, rfl⟩))
    (fun os started H enc _ => lifted os started H enc)

theorem proved : Rows.CubeDecidesSaid :=
  over
#print axioms proved
end Go.Proofs.Ytnfboopfpkaeaaa.cubeDecides
