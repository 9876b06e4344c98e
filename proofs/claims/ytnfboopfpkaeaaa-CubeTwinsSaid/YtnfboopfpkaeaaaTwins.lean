/- CubeTwins answers true, whatever the number and the five choices. No condition: for any table of up to four bits and any turn of it (the bits permuted, some of them and the values turned over) both first twins are the same, and sensitivity, block sensitivity, certificate size, depth and degree are the same for the table, its turn and the first twin. -/
import Derived.Test.YtnfboopfpkaeaaaRows
import Derived.WalkKit
import Derived.ProofKit
import Derived.OpenShut
import Derived.ChangeStays
import Derived.WideKeyPair
import Derived.Test.YtnfboopfpkaeaaaCubeQB
import Derived.Test.YtnfboopfpkaeaaaTwinQB
namespace Go.Proofs.Ytnfboopfpkaeaaa.cubeTwins
open Go.ChangeShapes Go.WideShapes Go.ChangeAt Go.RowKit Go.Eng
set_option maxRecDepth 100000
set_option linter.unusedVariables false      -- a walk need not use every 'w<i>' (that an integer argument fits its kind)

theorem own : ownKnob Try.prog.godebug = none := by kernel_rfl
theorem T22 : Try.prog.underlying 22 = some (.int .u64) := by kernel_rfl
theorem A68 : Go.WideMaps.ArrKey Try.prog 68 3 5 := ⟨by kernel_rfl, by kernel_rfl, by kernel_rfl, by kernel_rfl⟩
theorem open_five {H : Type} {enc : TypeId × Value → H} {P : Program} {k e : TypeId} {q : IntKind} {W : World} {base : Nat} {sp : Nat → Bool} {held : Bool} (A : Go.WideMaps.ArrKey P k e 5) (he : P.underlying e = some (.int q)) {r : Reach} {b0 : Nat} {v : Value} {d : DataW H} {ps : List MemPlace} (hval : Value.okWide P W r b0 k v) (hd : DataW.Trod enc P W base sp held k v d ps) :
    ∃ a b c d f : Int, v = .agg #[.int q a, .int q b, .int q c, .int q d, .int q f] ∧ ps = [] := by
  obtain ⟨c0, c1, c2, c3, c4, rfl⟩ : ∃ c0 c1 c2 c3 c4, v = .agg #[c0, c1, c2, c3, c4] := by
    simp only [Value.okWide, A.hu] at hval
    obtain ⟨cs, h1, h2, _⟩ := hval
    rw [A.size] at h2
    obtain ⟨l⟩ := cs
    match l, h2 with
    | [c0, c1, c2, c3, c4], _ => exact ⟨c0, c1, c2, c3, c4, h1⟩
  obtain ⟨fuel, hf⟩ := hd
  cases fuel with
  | zero => simp [DataW.trod] at hf
  | succ n =>
    rw [DataW.trod_step] at hf
    unfold DataW.trodStep at hf
    simp only [A.hu, Value.cells] at hf
    rw [if_pos (by rw [A.size]; rfl)] at hf
    simp only [Option.map_eq_some_iff] at hf
    obtain ⟨xs, hx, e1⟩ := hf
    rw [show List.range 5 = [0, 1, 2, 3, 4] from rfl, List.mapM_cons, List.mapM_cons, List.mapM_cons, List.mapM_cons, List.mapM_cons, List.mapM_nil] at hx
    simp only [bind, Option.bind_eq_some_iff, pure, Option.some.injEq, A.one] at hx
    obtain ⟨y0, h0, _, ⟨y1, h1, _, ⟨y2, h2, _, ⟨y3, h3, _, ⟨y4, h4, _, rfl, rfl⟩, rfl⟩, rfl⟩, rfl⟩, rfl⟩ := hx
    obtain ⟨a, ea, rfl, wa⟩ := DataW.trod_int he h0
    obtain ⟨b, eb, rfl, wb⟩ := DataW.trod_int he h1
    obtain ⟨c, ec, rfl, wc⟩ := DataW.trod_int he h2
    obtain ⟨d, ed, rfl, wd⟩ := DataW.trod_int he h3
    obtain ⟨f, ef, rfl, wf⟩ := DataW.trod_int he h4
    simp at ea eb ec ed ef
    subst ea; subst eb; subst ec; subst ed; subst ef
    simp only [Prod.mk.injEq] at e1
    exact ⟨a, b, c, d, f, rfl, by rw [← e1.2]; rfl⟩
theorem kids : Kids Try.prog (fun t => t = 22 ∨ t = 68 ∨ t = 3) := by
  have u68 := A68.hu
  refine ⟨fun h hu => ?_, fun h hu => ?_, fun h hu => ?_, fun h hu => ?_, fun h hu => ?_⟩
  · rcases h with rfl | rfl | rfl
    · rw [T22] at hu; cases hu
    · rw [u68] at hu; cases hu
    · rw [Try.underlying3] at hu; cases hu
  · rcases h with rfl | rfl | rfl
    · rw [T22] at hu; cases hu
    · rw [u68] at hu; cases hu
    · rw [Try.underlying3] at hu; cases hu
  · rcases h with rfl | rfl | rfl
    · rw [T22] at hu; cases hu
    · rw [u68] at hu; cases hu; exact ⟨.inr (.inr rfl), by kernel_rfl⟩
    · rw [Try.underlying3] at hu; cases hu
  · rcases h with rfl | rfl | rfl
    · rw [T22] at hu; cases hu
    · rw [u68] at hu; cases hu
    · rw [Try.underlying3] at hu; cases hu
  · rcases h with rfl | rfl | rfl
    · rw [T22] at hu; cases hu
    · rw [u68] at hu; cases hu
    · rw [Try.underlying3] at hu; cases hu
theorem sizes : ∀ {t e : TypeId}, (t = 22 ∨ t = 68 ∨ t = 3) → Try.prog.underlying t = some (.slice e) → 0 < Try.prog.cellsOf e := by
  intro t e h hu
  rcases h with rfl | rfl | rfl
  · rw [T22] at hu; cases hu
  · rw [A68.hu] at hu; cases hu
  · rw [Try.underlying3] at hu; cases hu
theorem stays {H : Type} {enc : TypeId × Value → H} {w w' : World} {sp : Nat → Bool} : ∀ {ts : List TypeId} {vs : List Value} {ds : List (DataW H)} {ps : List MemPlace}, (∀ t ∈ ts, t = 22 ∨ t = 68 ∨ t = 3) →
    DataW.TrodAll enc Try.prog w 0 (fun _ => true) true ts vs ds ps → (∀ p ∈ ps, w.sameAt w' p) → (∀ p ∈ ps, sp p.block = true) → DataW.TrodAll enc Try.prog w' 0 sp true ts vs ds ps
  | [], vs, ds, ps, _, h, _, _ => by
    obtain ⟨rfl, rfl, rfl⟩ := trodAll_nil h
    exact trodAll_mk0
  | t :: ts, vs, ds, ps, ht, h, h1, h2 => by
    obtain ⟨v, vs', d, ds', p, q, rfl, rfl, rfl, ⟨fuel, hf⟩, hr⟩ := trodAll_cons h
    exact trodAll_cons_mk ⟨fuel, DataW.trod_stays kids sizes (fun hh => by cases hh) (ht t (by simp)) hf (fun x hx => h1 x (List.mem_append_left _ hx)) (fun x hx => h2 x (List.mem_append_left _ hx))⟩
      (stays (fun u hu => ht u (by simp [hu])) hr (fun x hx => h1 x (List.mem_append_right _ hx)) (fun x hx => h2 x (List.mem_append_right _ hx)))

theorem walk (x a0 a1 a2 a3 a4 : Int) (w : World) :
    Calls Try.prog 8 #[.int .u64 x, .agg #[.int .i64 a0, .int .i64 a1, .int .i64 a2, .int .i64 a3, .int .i64 a4]] w fun e w' => e = .returned (.bool true) ∧ Below w.heap.size w w' := by
  obtain ⟨H, e⟩ := said8 x a0 a1 a2 a3 a4 ⟨.nil, Try.prog.globals.size⟩
  exact Eng.calls_flat orc_ok (by kernel_rfl) e rfl rfl w

set_option maxRecDepth 100000 in
theorem lifted (os : Os) (started : os.Started) (H : Type) (enc : TypeId × Value → H) :
    ReturnsInHanded {} Try.checked os 8 .any (Rows.cubeTwinsSpec.pre6 enc Try.prog Try.f8 Rows.cubeTwinsRow.domain false) (Rows.cubeTwinsSpec.post enc Try.prog Try.f8 false true false false) := by
  refine returnsInHanded_of_change (C := Try.checked) own started (by kernel_rfl) Try.func8
    (ChangeSpec.witness6 (enc := enc) (C := Try.checked) false ⟨#[], #[.int .u64 0, .agg #[.int .i64 0, .int .i64 0, .int .i64 0, .int .i64 0, .int .i64 0]], []⟩ 8 (by kernel_rfl) (by kernel_rfl) (by kernel_rfl) (by kernel_rfl)) ?_
  intro W base args ds gs before hval0 hW hcnd _
  have hval : ∀ (j : Nat) t v, Try.f8.params[j]? = some t → args[j]? = some v → Value.okWide Try.prog W .any base t v := hval0
  have hW' := hW
  obtain ⟨p, q, hA0, hV, rfl, hfz, hnd⟩ := hW
  have hA : DataW.TrodAll enc Try.prog W 0 (fun _ => true) true Try.f8.params.toList args.toList ds p := hA0
  have hAll := hA
  rw [Try.params8] at hA hval
  obtain ⟨v0, vs0, d0, ds0, p0, q0, hargs, rfl, rfl, h0, r0⟩ := trodAll_cons hA
  obtain ⟨v1, vs1, d1, ds1, p1, q1, rfl, rfl, rfl, h1, r1⟩ := trodAll_cons r0
  obtain ⟨rfl, rfl, rfl⟩ := trodAll_nil r1
  obtain rfl : args = #[v0, v1] := by cases args; simp_all
  obtain ⟨rfl, rfl⟩ := trodVars_none hV
  obtain ⟨x, rfl, rfl, rfl, w0⟩ := open_int T22 (hval 0 22 v0 rfl rfl) h0
  obtain ⟨a, b, c, d, f, rfl, rfl⟩ := open_five A68 Try.underlying3 (hval 1 68 v1 rfl rfl) h1
  have hlt := DataW.TrodAll.lt hAll
  simp only [List.append_nil] at hW' hAll hlt
  refine (walk x a b c d f W).mono fun e W' ⟨he, hg⟩ => ?_
  subst he
  refine ⟨_, rfl, post_of_below (pv := []) hW' (fun _ _ _ => (trodAll_cons_mk (shut_bool Try.underlying4 _) trodAll_mk0)) (fun sp hsp => ?_) (fun _ _ => rfl) (List.append_nil _).symm
    hg (ok_one (by kernel_rfl) rfl (okWide_bool_mk Try.underlying4 _))⟩
  exact stays (by rw [Try.params8]; decide) hAll (fun p hp => hg.same (hlt p hp)) hsp

theorem over : Rows.cubeTwinsRow.holds Try.pinned (OpenSpec.ofChange Rows.cubeTwinsSpec) :=
  OpenClaim.holds_of_wide 8 Try.f8 rfl rfl rfl rfl rfl rfl rfl ⟨rfl, rfl, rfl, rfl, rfl⟩ rfl rfl rfl rfl rfl (by kernel_rfl) Try.func8 (by kernel_rfl)
    (of_decide_eq_true (by kernel_rfl)) (by unfold Func.isWrapper; first | (rw [if_pos (by decide +kernel)]; kernel_rfl) | (rw [if_neg (by decide +kernel)]; exact ⟨rfl, rfl⟩))
    (fun os started H enc _ => lifted os started H enc)

theorem proved : Rows.CubeTwinsSaid :=
  over
#print axioms proved
end Go.Proofs.Ytnfboopfpkaeaaa.cubeTwins
