/- A quicker evaluator in passing style: functions. -/
import Derived.Test.YtkfbfgcflnkllaaGreatDoorFxE
namespace Go.Eng
noncomputable section

structure ResC where
  run : Tm → Hp → (List Value → Ans) → Ans

def resC (P : Program) : List ResultVar → ResC
  | [] => ⟨fun _ _ k => k []⟩
  | .tmp t :: r => ⟨fun tm h k => (getC (path t)).run tm fun v => (resC P r).run tm h fun l => k (v :: l)⟩
  | .cell a t :: r => ⟨fun tm h k => (loadC P t (.tmp a) failC).run ⟨fun _ _ _ => .no, fun _ _ => none, ⟨0, 0, tm, [], none⟩⟩ tm h fun v _ => (resC P r).run tm h fun l => k (v :: l)⟩

theorem loadC_fail {P : Program} {t : TypeId} {a : Operand} {e : Ev} {F : Fm} {h : Hp} {k : KH} (hr : Yes ((loadC P t a failC).run e F.tm h k)) :
    ∃ v, loadT P h t (F.eval a) = some v ∧ Yes (k v h) := by
  unfold loadC at hr
  split at hr
  · rename_i h1
    simp only [opdC_eq] at hr
    rcases ptrK_ok hr with ⟨i, off, h2, hr⟩ | hr
    · obtain ⟨ob, h3, hr⟩ := getK_ok hr
      rcases loadN_one h3 hr with ⟨v, h4, hr⟩ | hr
      · exact ⟨v, by simp only [loadT, h2, h1, h4], hr⟩
      · cases hr
    · cases hr
  · rename_i n h1 h1'
    simp only [opdC_eq] at hr
    rcases ptrK_ok hr with ⟨i, off, h2, hr⟩ | hr
    · obtain ⟨ob, h3, hr⟩ := getK_ok hr
      rcases loadN_cells h3 hr with ⟨l, h4, hr⟩ | hr
      · exact ⟨_, by simp only [loadT, h2, h1, h1', h4], hr⟩
      · cases hr
    · cases hr
  · cases hr

theorem resC_ok (P : Program) (F : Fm) (h : Hp) : ∀ (l : List ResultVar) (k : List Value → Ans), Yes ((resC P l).run F.tm h k) → ∃ r, resultsOf P F h l = some r ∧ Yes (k r)
  | [], k, hr => ⟨[], rfl, hr⟩
  | .tmp t :: r, k, hr => by
    simp only [resC, getC_eq, getB_path] at hr
    obtain ⟨l, h1, h2⟩ := resC_ok P F h r _ hr
    exact ⟨_, by simp only [resultsOf, h1], h2⟩
  | .cell a t :: r, k, hr => by
    simp only [resC] at hr
    obtain ⟨v, h1, hr⟩ := loadC_fail (F := F) hr
    obtain ⟨l, h2, h3⟩ := resC_ok P F h r _ hr
    exact ⟨v :: l, by simp only [resultsOf]; rw [show (F.tm.get a).getD undef = F.eval (.tmp a) from rfl, h1, h2], h3⟩

def oneK (l : List Value) (k : KV) : Ans :=
  List.rec (motive := fun _ => Ans) (k (.tuple ⟨[]⟩)) (fun v r _ => List.rec (motive := fun _ => Ans) (k v) (fun w q _ => k (.tuple ⟨v :: w :: q⟩)) r) l

theorem oneK_eq (l : List Value) (k : KV) : oneK l k = k (oneOf l) := by
  match l with
  | [] => rfl
  | [v] => rfl
  | v :: w :: q => rfl

/-- The slots of the arguments. -/
def putArgs (l : List Value) (i : Nat) (tm : Tm) (k : Tm → Ans) : Ans :=
  List.rec (motive := fun _ => Nat → Tm → Ans) (fun _ tm => k tm) (fun v _ ih i tm => (putC (path i)).run v tm fun tm => ih (Nat.succ i) tm) l i tm

theorem putArgs_eq (k : Tm → Ans) : ∀ (l : List Value) (i : Nat) (tm : Tm), putArgs l i tm k = k (putAll tm i l)
  | [], _, _ => rfl
  | v :: r, i, tm => by
    change ((putC (path i)).run v tm fun tm => putArgs r (Nat.succ i) tm k) = _
    rw [putC_eq, setB_path, putArgs_eq k r]
    rfl

/-- A call that was put off. -/
def defK (O : Orc) (cf : CallK) (d : Deferred) (h : Hp) (k : Hp → Ans) : Ans :=
  match d.target with
  | .collected b => getK h b fun o => match o with
    | .defd false => putK h b (.defd true) k
    | _ => .no
  | .fn (.func g) cap => match O g with
    | none => cf (.fn g (d.args.toList ++ cap.toList)) h fun _ h => k h
    | some _ => .no
  | _ => .no

def collectK (O : Orc) (cf : CallK) (ds : List Deferred) (h : Hp) (k : Hp → Ans) : Ans :=
  List.rec (motive := fun _ => Hp → Ans) (fun h => k h) (fun d _ ih h => defK O cf d h ih) ds h

theorem collectK_ok {O : Orc} {e : Ev} (he : EvOK e) {k : Hp → Ans} : ∀ (ds : List Deferred) (h : Hp), Yes (collectK O e.cf ds h k) → ∃ h2, collect (plainC O e.ef) ds h = some h2 ∧ Yes (k h2)
  | [], h, hr => ⟨h, rfl, hr⟩
  | d :: r, h, hr => by
    have hr' : Yes (defK O e.cf d h fun h => collectK O e.cf r h k) := hr
    unfold defK at hr'
    simp only [collect]
    split at hr'
    · rename_i b hd
      obtain ⟨o, h1, h2⟩ := getK_ok hr'
      split at h2
      · rw [putK_eq] at h2
        simp only [hd, h1]
        exact collectK_ok he r _ h2
      · cases h2
    · rename_i g cap hd
      split at hr'
      · rename_i hO
        obtain ⟨v, h', h1, h2⟩ := he _ _ _ hr'
        simp only [hd, plainC, hO, h1]
        exact collectK_ok he r _ h2
      · cases hr'
    · cases hr'

def endK (_P : Program) (O : Orc) (r : ResC) (_rs : List ResultVar) (k : KH) (e : Ev) (tm : Tm) (h : Hp) : Ans :=
  collectK O e.cf e.F.defers h fun h => r.run tm h fun l => oneK l fun v => k v h

theorem endK_ok {P : Program} {O : Orc} {rs : List ResultVar} {k : KH} {e : Ev} (he : EvOK e) {tm : Tm} {h : Hp} (hr : Yes (endK P O (resC P rs) rs k e tm h)) :
    ∃ v h2, (match collect (plainC O e.ef) (frm e tm).defers h with
      | none => none
      | some h2 => match resultsOf P (frm e tm) h2 rs with
        | some l => some (oneOf l, h2)
        | none => none) = some (v, h2) ∧ Yes (k v h2) := by
  unfold endK at hr
  obtain ⟨h2, h1, hr2⟩ := collectK_ok he _ _ hr
  obtain ⟨l, g1, g2⟩ := resC_ok P (frm e tm) h2 rs _ hr2
  rw [oneK_eq] at g2
  have hd : (frm e tm).defers = e.F.defers := rfl
  rw [hd, h1]
  exact ⟨_, h2, by simp only [g1], g2⟩

structure FnC where
  run : CallK → CallF → List Value → Hp → KH → Ans

/-- The slots of a function whose values are left as needs. -/
def selS (f : Nat) (sy : List (Nat × Nat)) : List Nat := (sy.filter fun p => Nat.beq p.1 f).map (·.2)

def fnC (P : Program) (O : Orc) (lf : Nat) (sy : List (Nat × Nat)) (f : FuncId) : FnC :=
  match O f with
  | some g => ⟨fun _ _ args h k => genK (g args h) k⟩
  | none => match P.funcs[f]? with
  | none => ⟨fun _ _ _ _ _ => .no⟩
  | some fn => match fn.body, fn.name == "runtime.NumGoroutine" with
    | some body, false => ⟨fun cf ef args h k => bite (Nat.ble args.length fn.ntmps) (putArgs args 0 .nil fun tm =>
        (codeC P lf fn.ntmps (selS f sy) body).run ⟨cf, ef, ⟨f, fn.ntmps, .nil, [], none⟩⟩ tm h (endK P O (resC P fn.results.toList) fn.results.toList k)
          fun ex e tm h => Ex.rec (motive := fun _ => Ans) (endK P O (resC P fn.results.toList) fn.results.toList k e tm h) (fun _ => .no) (endK P O (resC P fn.results.toList) fn.results.toList k e tm h) ex) .no⟩
    | _, _ => ⟨fun _ _ _ _ _ => .no⟩

def putZipT (n : Nat) : List (Tmp × Value) → Tm → Tm
  | [], tm => tm
  | (t, v) :: r, tm => putZipT n r (putT n (some t) v tm)

theorem putZip_eq (e : Ev) : ∀ (l : List (Tmp × Value)) (tm : Tm), putZip (frm e tm) l = frm e (putZipT e.F.n l tm)
  | [], tm => rfl
  | (t, v) :: r, tm => by simp only [putZip, put_frm, putZip_eq e r, putZipT]

def putZipK (n : Nat) (ps : List Tmp) (vs : List Value) (tm : Tm) (k : Tm → Ans) : Ans :=
  List.rec (motive := fun _ => List Value → Tm → Ans) (fun _ tm => k tm)
    (fun t _ ih vs tm => List.rec (motive := fun _ => Ans) (k tm) (fun v vr _ => (dstC n (some t)).run v tm fun tm => ih vr tm) vs) ps vs tm

theorem putZipK_eq (n : Nat) (k : Tm → Ans) : ∀ (ps : List Tmp) (vs : List Value) (tm : Tm), putZipK n ps vs tm k = k (putZipT n (ps.zip vs) tm)
  | [], vs, tm => rfl
  | t :: r, [], tm => rfl
  | t :: r, v :: vr, tm => by
    change ((dstC n (some t)).run v tm fun tm => putZipK n r vr tm k) = _
    rw [dstT, putZipK_eq n k r vr]
    rfl

def nilK (ds : List Deferred) (k : Ans) : Ans := List.rec (motive := fun _ => Ans) k (fun _ _ _ => .no) ds

theorem nilK_ok {ds : List Deferred} {k : Ans} (h : Yes (nilK ds k)) : ds = [] ∧ Yes (k) := by
  cases ds with
  | nil => exact ⟨rfl, h⟩
  | cons _ _ => cases h

def yieldEnd (l : Nat) (k : KH) (ex : Ex) (e : Ev) (h : Hp) : Ans :=
  nilK e.F.defers (getK h l fun o => loopObjK o fun _ _ fm ps as body d => Ex.rec (motive := fun _ => Ans)
    (putK h l (.loop .ready none fm ps as body d) fun h => k (.bool true) h)
    (fun i => putK h l (.loop .done (some (.exit i)) fm ps as body d) fun h => k (.bool false) h)
    (putK h l (.loop .done (some .ret) fm ps as body d) fun h => k (.bool false) h) ex)

def yieldK (P : Program) (lf : Nat) (cf : CallK) (ef : CallF) (l : Nat) (args : List Value) (h : Hp) (k : KH) : Ans :=
  getK h l fun o => loopObjK o fun st _ fm ps as body _ => isReady st (bite (Nat.beq args.length ps.size) (Fm.rec (motive := fun _ => Ans) (fun fn nn tm _ _ => putZipK nn ps.toList args tm fun tm =>
    (codeC P lf nn [] as).run ⟨cf, ef, ⟨fn, nn, .nil, [], some l⟩⟩ tm h
      (fun e tm h => getK h l fun o => loopObjK o fun st pd fm ps as body' d => isReady st (putK h l (.loop .busy pd fm ps as body' d) fun h =>
        (codeC P lf nn [] body).run e tm h (fun e _ h => yieldEnd l k .normal e h) (fun ex e _ h => yieldEnd l k ex e h)))
      (fun _ _ _ _ => .no)) fm) .no)

theorem yieldK_ok {P : Program} {O : Orc} {lf n : Nat} {cf : CallK} (hcf : ∀ F, EvOK ⟨cf, evInv P O lf n, F⟩) {l : Nat} {args : List Value} {h : Hp} {k : KH} (hr : Yes (yieldK P lf cf (evInv P O lf n) l args h k)) :
    Says (evInv P O lf (n + 1) (.yield l args) h) k := by
  unfold yieldK at hr
  obtain ⟨o, g1, r1⟩ := getK_ok hr
  obtain ⟨st, pd, fm, ps, as, body, d, rfl, r2⟩ := loopObjK_ok r1
  obtain ⟨rfl, r3⟩ := isReady_ok r2
  rcases bite_ok r3 with ⟨g2, r4⟩ | ⟨_, r4⟩
  · obtain ⟨fn, nn, tm, ds, rd⟩ := fm
    simp only [putZipK_eq] at r4
    obtain ⟨ex, e1, tm1, h1, a1, a2, a3, a4, r5⟩ := codeC_ok P lf nn [] as ⟨cf, evInv P O lf n, ⟨fn, nn, .nil, [], some l⟩⟩ _ h _ _ (hcf _) rfl r4
    cases ex with
    | exit i => cases r5
    | ret => cases r5
    | normal =>
      obtain ⟨o1, g3, r6⟩ := getK_ok r5
      obtain ⟨st1, pd1, fm1, ps1, as1, body1, d1, rfl, r7⟩ := loopObjK_ok r6
      obtain ⟨rfl, r8⟩ := isReady_ok r7
      rw [putK_eq] at r8
      have he1 : EvOK e1 := (hcf ⟨fn, nn, .nil, [], some l⟩).of a2 a3
      obtain ⟨ex, e2, tm2, h2, b1, b2, b3, b4, r9⟩ := codeC_ok P lf nn [] body e1 tm1 _ _ _ he1 a4 r8
      have hr2 : Yes (yieldEnd l k ex e2 h2) := by cases ex <;> exact r9
      obtain ⟨g4, hr3⟩ := nilK_ok hr2
      obtain ⟨o2, g5, hr4⟩ := getK_ok hr3
      obtain ⟨st2, pd2, fm2, ps2, as2, body2, d2, rfl, hr5⟩ := loopObjK_ok hr4
      have hF0 : ({ putZip ⟨fn, nn, tm, ds, rd⟩ (ps.toList.zip args) with defers := [], round := some l } : Fm) = frm ⟨cf, evInv P O lf n, ⟨fn, nn, .nil, [], some l⟩⟩ (putZipT nn (ps.toList.zip args) tm) := by
        have := putZip_eq ⟨cf, evInv P O lf n, ⟨fn, nn, tm, ds, rd⟩⟩ (ps.toList.zip args) tm
        have h2 : putZip ⟨fn, nn, tm, ds, rd⟩ (ps.toList.zip args) = frm ⟨cf, evInv P O lf n, ⟨fn, nn, tm, ds, rd⟩⟩ (putZipT nn (ps.toList.zip args) tm) := this
        rw [h2]
        rfl
      have b1' : evC (evInv P O lf n) P lf body (frm e1 tm1) (h1.put l (.loop .busy pd1 fm1 ps1 as1 body1 d1)) = some (ex, frm e2 tm2, h2) := by
        rw [← b1, a3]
      have g4' : (frm e2 tm2).defers = [] := g4
      unfold Says
      simp only [evInv, g1, g2, hF0, a1, g3, b1', g5, g4']
      cases ex with
      | normal =>
        have hr6 : Yes ((putK h2 l (.loop .ready none fm2 ps2 as2 body2 d2) fun h => k (.bool true) h)) := hr5
        rw [putK_eq] at hr6
        exact ⟨_, _, rfl, hr6⟩
      | exit i =>
        have hr6 : Yes ((putK h2 l (.loop .done (some (.exit i)) fm2 ps2 as2 body2 d2) fun h => k (.bool false) h)) := hr5
        rw [putK_eq] at hr6
        exact ⟨_, _, rfl, hr6⟩
      | ret =>
        have hr6 : Yes ((putK h2 l (.loop .done (some .ret) fm2 ps2 as2 body2 d2) fun h => k (.bool false) h)) := hr5
        rw [putK_eq] at hr6
        exact ⟨_, _, rfl, hr6⟩
  · cases r4

def runInv (P : Program) (O : Orc) (lf : Nat) (sy : List (Nat × Nat)) (n : Nat) : CallK :=
  Nat.rec (motive := fun _ => CallK) (fun _ _ _ => .no)
    (fun n ih i h k => Inv.rec (motive := fun _ => Ans) (fun f args => (fnC P O lf sy f).run ih (evInv P O lf n) args h k)
      (fun l args => yieldK P lf ih (evInv P O lf n) l args h k) i) n

theorem runInv_ok (P : Program) (O : Orc) (lf : Nat) (sy : List (Nat × Nat)) : ∀ (n : Nat) (F : Fm), EvOK ⟨runInv P O lf sy n, evInv P O lf n, F⟩
  | 0, F => fun i h k hr => by cases hr
  | n + 1, F => fun i h k hr => by
    cases i with
    | yield l args => exact yieldK_ok (cf := runInv P O lf sy n) (fun F => runInv_ok P O lf sy n F) hr
    | fn f args =>
      have hr' : Yes ((fnC P O lf sy f).run (runInv P O lf sy n) (evInv P O lf n) args h k) := hr
      unfold fnC at hr'
      simp only [evInv]
      cases hO : O f with
      | some g =>
        simp only [hO] at hr'
        obtain ⟨v, h', h1, h2⟩ := genK_ok hr'
        exact ⟨v, h', h1, h2⟩
      | none =>
        simp only [hO] at hr'
        split at hr'
        · cases hr'
        · rename_i fn hf
          split at hr'
          · rename_i body hb hnm
            rcases bite_ok hr' with ⟨h1, h2⟩ | ⟨_, h2⟩
            · rw [putArgs_eq] at h2
              obtain ⟨ex, e', tm', h', g1, g2, g3, g4, g5⟩ := codeC_ok P lf fn.ntmps (selS f sy) body ⟨runInv P O lf sy n, evInv P O lf n, ⟨f, fn.ntmps, .nil, [], none⟩⟩ _ h _ _ (runInv_ok P O lf sy n _) rfl h2
              have g1' : evC (evInv P O lf n) P lf body { fn := f, n := fn.ntmps, tm := putAll .nil 0 args, defers := [], round := none } h = some (ex, frm e' tm', h') := g1
              have he' : EvOK e' := (runInv_ok P O lf sy n ⟨f, fn.ntmps, .nil, [], none⟩).of g2 g3
              have g3' : e'.ef = evInv P O lf n := g3
              rw [← g3']
              rw [← g3'] at g1'
              simp only [hf, hb, hnm, h1, g1']
              cases ex with
              | exit i => cases g5
              | normal => exact endK_ok he' g5
              | ret => exact endK_ok he' g5
            · cases h2
          · cases hr'

theorem runInv_says {P : Program} {O : Orc} {lf n : Nat} {sy : List (Nat × Nat)} {f : FuncId} {args : List Value} {h : Hp} {k : KH} (hr : Yes (runInv P O lf sy n (.fn f args) h k)) :
    ∃ v h', evInv P O lf n (.fn f args) h = some (v, h') ∧ Yes (k v h') :=
  runInv_ok P O lf sy n ⟨0, 0, .nil, [], none⟩ (.fn f args) h k hr

/-- A bool that is true. -/
def trueV (v : Value) (_ : Hp) : Ans := boolK v .no fun b => bite b .yes .no

theorem trueV_ok {v : Value} {h : Hp} (hr : Yes (trueV v h)) : v = .bool true := by
  rcases boolK_ok hr with ⟨b, h1, h2⟩ | h2
  · rcases bite_ok h2 with ⟨rfl, _⟩ | ⟨_, h3⟩
    · exact h1
    · cases h3
  · cases h2

def isYes (a : Ans) : Bool := Ans.rec (motive := fun _ => Bool) false true (fun _ _ _ => false) a

theorem isYes_ok {a : Ans} (h : isYes a = true) : Yes a := by
  cases a with
  | no => cases h
  | yes => exact .yes
  | need v f => cases h

/-- What is needed, and what goes on with it. -/
def needV (a : Ans) : Value := Ans.rec (motive := fun _ => Value) undef undef (fun v _ _ => v) a
def needF (a : Ans) : Value → Ans := Ans.rec (motive := fun _ => Value → Ans) (fun _ => .no) (fun _ => .no) (fun _ f _ => f) a
def isNeed (a : Ans) : Bool := Ans.rec (motive := fun _ => Bool) false false (fun _ _ _ => true) a

theorem need_ok {a : Ans} {v : Value} (h1 : isNeed a = true) (h2 : needV a = v) (h3 : Yes (needF a v)) : Yes a := by
  cases a with
  | no => cases h1
  | yes => cases h1
  | need w f =>
    have : w = v := h2
    subst this
    exact .need h3

end
end Go.Eng
