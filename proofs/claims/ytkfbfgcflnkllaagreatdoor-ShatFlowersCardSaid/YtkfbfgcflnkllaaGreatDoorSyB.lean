/- Rules for runs with open places. -/
import Derived.Test.YtkfbfgcflnkllaaGreatDoorSyA
namespace Go.Eng

noncomputable section

def askR : SA → Option (Value × Hp)
  | .ask r _ => r
  | _ => none

def askK : SA → Value → Hp → SA
  | .ask _ k => k
  | _ => fun _ _ => .bad

def testB : SA → Option Bool
  | .test b _ _ => some b
  | _ => none

def testY : SA → SA
  | .test _ y _ => y
  | _ => .bad

def testN : SA → SA
  | .test _ _ n => n
  | _ => .bad

def doneP : SA → Option (Value × Hp)
  | .done v h => some (v, h)
  | _ => none

def backP : SA → Option ((Fr → Hp → SA) × Fr × Hp)
  | .back L f h => some (L, f, h)
  | _ => none

def cutP : SA → Option (Nat × Fr × Hp)
  | .cut n _ f h => some (n, f, h)
  | _ => none

def cutFam : SA → Nat → Fr → Hp → SA
  | .cut _ fam _ _ => fam
  | _ => fun _ _ _ => .bad

def cutF : SA → Fr
  | .cut _ _ f _ => f
  | _ => fun _ => undef

def cutH : SA → Hp
  | .cut _ _ _ h => h
  | _ => ⟨.nil, 0⟩

def backF : SA → Fr
  | .back _ f _ => f
  | _ => fun _ => undef

def backH : SA → Hp
  | .back _ _ h => h
  | _ => ⟨.nil, 0⟩

/-- So many steps whose answers are plain. -/
def goS : Nat → SA → SA
  | 0, t => t
  | n + 1, t => match t with
    | .ask r k => match r with
      | some (v, h) => goS n (k v h)
      | none => .bad
    | .test b y m => match b with
      | true => goS n y
      | false => goS n m
    | t => t

variable {Q : Value → Hp → Prop}

theorem ok_go : ∀ (n : Nat) {t : SA}, Ok Q (goS n t) → Ok Q t
  | 0, t, h => h
  | n + 1, t, h => by
    unfold goS at h
    split at h
    · split at h
      · exact ⟨_, _, rfl, ok_go n h⟩
      · exact h.elim
    · split at h
      · exact ⟨fun _ => ok_go n h, fun hh => nomatch hh⟩
      · exact ⟨(fun hh => nomatch hh), fun _ => ok_go n h⟩
    · exact h

theorem ok_ask {t : SA} {v : Value} {h' : Hp} (hr : askR t = some (v, h')) (hk : Ok Q (askK t v h')) : Ok Q t := by
  cases t with
  | ask r k => exact ⟨v, h', hr, hk⟩
  | _ => cases hr

theorem ok_test {t : SA} {b : Bool} (hb : testB t = some b) (hy : b = true → Ok Q (testY t)) (hn : b = false → Ok Q (testN t)) : Ok Q t := by
  cases t with
  | test b' y n => cases hb; exact ⟨hy, hn⟩
  | _ => cases hb

theorem ok_done {t : SA} {v : Value} {h : Hp} (hd : doneP t = some (v, h)) (hq : Q v h) : Ok Q t := by
  cases t with
  | done v' h' => cases hd; exact hq
  | _ => cases hd

theorem ok_back {t : SA} {L : Fr → Hp → SA} {f : Fr} {h : Hp} (hb : backP t = some (L, f, h)) (hk : Ok Q (L f h)) : Ok Q t := by
  cases t with
  | back L' f' h' => cases hb; exact hk
  | _ => cases hb

theorem ok_as {t : SA} (u : SA) (he : t = u) (hk : Ok Q u) : Ok Q t := he ▸ hk

/-- A frame with some slots written. -/
def upds (f : Fr) : List (Nat × Value) → Fr
  | [] => f
  | (t, v) :: r => upd (upds f r) t v

def Has (f : Fr) : List (Nat × Value) → Prop
  | [] => True
  | (t, v) :: r => f t = v ∧ Has f r

theorem upds_has {f : Fr} : ∀ {l : List (Nat × Value)}, Has f l → upds f l = f
  | [], _ => rfl
  | (t, v) :: r, h => by
    funext i
    simp only [upds, upd_eq, upds_has h.2]
    split
    · rename_i e; subst e; exact h.1.symm
    · rfl

/-- A loop: what stands in the slots is told by a, which has I and a measure. -/
theorem ok_loop {t : SA} {α : Type} (val : α → List (Nat × Value)) (I : α → Hp → Prop) (μ : α → Hp → Nat) (a0 : α) {n : Nat} {f0 : Fr} {h0 : Hp}
    (hc : cutP t = some (n, f0, h0)) (hm : μ a0 h0 < n) (h0I : I a0 h0) (hf : Has f0 (val a0))
    (step : ∀ m a f h, I a h → (∀ a' f' h', I a' h' → μ a' h' < μ a h → Has f' (val a') → Ok Q (cutFam t m f' h')) → Ok Q (cutFam t (m + 1) (upds f (val a)) h)) : Ok Q t := by
  cases t with
  | cut n' fam f' h' =>
    cases hc
    have key : ∀ m a f h, I a h → μ a h < m → Has f (val a) → Ok Q (cutFam (.cut n fam f0 h0) m f h) := by
      intro m
      induction m with
      | zero => intro a f h _ hlt; omega
      | succ m ih =>
        intro a f h hI hlt hf
        have := step m a f h hI (fun a' f' h' hI' hlt' hf' => ih a' f' h' hI' (by omega) hf')
        rwa [upds_has hf] at this
    exact key n a0 f0 h0 h0I hm hf
  | _ => cases hc


def backL : SA → Option (Fr → Hp → SA)
  | .back L _ _ => some L
  | _ => none

/-! The rules with their plain steps ahead. -/

theorem sy_call (n : Nat) {t : SA} {r : Option (Value × Hp)} {v : Value} {h' : Hp} (he : askR (goS n t) = r) (e : r = some (v, h')) (hk : Ok Q (askK (goS n t) v h')) : Ok Q t :=
  ok_go n (ok_ask (he.trans e) hk)

theorem sy_load (n : Nat) {t : SA} {r : Option Value} {v : Value} {h' : Hp} (he : askR (goS n t) = r.map (·, h')) (e : r = some v) (hk : Ok Q (askK (goS n t) v h')) : Ok Q t :=
  ok_go n (ok_ask (v := v) (h' := h') (by rw [he, e]; rfl) hk)

theorem sy_store (n : Nat) {t : SA} {r : Option Hp} {h' : Hp} (he : askR (goS n t) = r.map (undef, ·)) (e : r = some h') (hk : Ok Q (askK (goS n t) undef h')) : Ok Q t :=
  ok_go n (ok_ask (v := undef) (h' := h') (by rw [he, e]; rfl) hk)

theorem sy_test (n : Nat) {t : SA} (b : Bool) (hb : testB (goS n t) = some b) (hy : b = true → Ok Q (testY (goS n t))) (hn : b = false → Ok Q (testN (goS n t))) : Ok Q t :=
  ok_go n (ok_test hb hy hn)

theorem sy_yes (n : Nat) {t : SA} {b : Bool} (hb : testB (goS n t) = some b) (e : b = true) (hy : Ok Q (testY (goS n t))) : Ok Q t :=
  ok_go n (ok_test hb (fun _ => hy) (fun h => by rw [e] at h; cases h))

theorem sy_no (n : Nat) {t : SA} {b : Bool} (hb : testB (goS n t) = some b) (e : b = false) (hy : Ok Q (testN (goS n t))) : Ok Q t :=
  ok_go n (ok_test hb (fun h => by rw [e] at h; cases h) (fun _ => hy))

theorem sy_done (n : Nat) {t : SA} {v : Value} {h : Hp} (hd : doneP (goS n t) = some (v, h)) (hq : Q v h) : Ok Q t :=
  ok_go n (ok_done hd hq)

/-- Back at the loop's head. -/
theorem sy_back (n : Nat) {t : SA} (L : Fr → Hp → SA) {f : Fr} {h : Hp} (hb : backP (goS n t) = some (L, f, h)) (hk : Ok Q (L f h)) : Ok Q t :=
  ok_go n (ok_back hb hk)

def cutN : SA → Option Nat
  | .cut n _ _ _ => some n
  | _ => none

theorem cutP_eq {t : SA} {n : Nat} (h : cutN t = some n) : cutP t = some (n, cutF t, cutH t) := by
  cases t with
  | cut n' fam f h' => cases h; rfl
  | _ => cases h

theorem sy_loop (n : Nat) {t : SA} (lf : Nat) (h0 : Hp) {α : Type} (val : α → List (Nat × Value)) (I : α → Hp → Prop) (μ : α → Hp → Nat) (a0 : α)
    (hc : cutN (goS n t) = some lf) (hh : cutH (goS n t) = h0) (hf : Has (cutF (goS n t)) (val a0)) (hm : μ a0 h0 < lf) (h0I : I a0 h0)
    (step : ∀ m a f h, I a h → (∀ a' f' h', I a' h' → μ a' h' < μ a h → Has f' (val a') → Ok Q (cutFam (goS n t) m f' h')) → Ok Q (cutFam (goS n t) (m + 1) (upds f (val a)) h)) : Ok Q t :=
  ok_go n (ok_loop val I μ a0 (cutP_eq hc) (by rw [hh]; exact hm) (by rw [hh]; exact h0I) hf step)

/-- Back at the loop's head, with a new state. -/
theorem sy_next (n : Nat) {t : SA} (L : Fr → Hp → SA) (h : Hp) (hb : backL (goS n t) = some L) (hh : backH (goS n t) = h) (hk : Ok Q (L (backF (goS n t)) h)) : Ok Q t := by
  refine ok_go n ?_
  revert hb hh hk
  generalize goS n t = u
  intro hb hh hk
  cases u with
  | back L' f' h' => cases hb; cases hh; exact hk
  | _ => cases hb

theorem fn_eq {P : Program} {O : Orc} {lf n : Nat} {f : FuncId} {args : List Value} {h : Hp} {V : Value} {H : Hp} (hk : Ok (fun v h' => v = V ∧ h' = H) (fnS P O lf n f args h)) : evInv P O lf (n + 1) (.fn f args) h = some (V, H) := by
  obtain ⟨v, h', h1, rfl, rfl⟩ := fnS_ok hk
  exact h1

theorem fn_val {P : Program} {O : Orc} {lf n : Nat} {f : FuncId} {args : List Value} {h : Hp} {V : Value} (hk : Ok (fun v _ => v = V) (fnS P O lf n f args h)) : ∃ H, evInv P O lf (n + 1) (.fn f args) h = some (V, H) := by
  obtain ⟨v, h', h1, rfl⟩ := fnS_ok hk
  exact ⟨h', h1⟩

/-- Plain steps, through loops. -/
def goU : Nat → SA → SA
  | 0, t => t
  | n + 1, t => match t with
    | .ask r k => match r with
      | some (v, h) => goU n (k v h)
      | none => .bad
    | .test b y m => match b with
      | true => goU n y
      | false => goU n m
    | .cut m fam f h => goU n (fam m f h)
    | .back L f h => goU n (L f h)
    | t => t

theorem sy_go : ∀ (n : Nat) {t : SA}, Ok Q (goU n t) → Ok Q t
  | 0, t, h => h
  | n + 1, t, h => by
    unfold goU at h
    split at h
    · split at h
      · exact ⟨_, _, rfl, sy_go n h⟩
      · exact h.elim
    · split at h
      · exact ⟨fun _ => sy_go n h, fun hh => nomatch hh⟩
      · exact ⟨(fun hh => nomatch hh), fun _ => sy_go n h⟩
    · rename_i m fam f h'
      exact (sy_go (t := fam m f h') n h : Ok Q (fam m f h'))
    · rename_i L f h'
      exact (sy_go (t := L f h') n h : Ok Q (L f h'))
    · exact h

/-! A region whose order is drawn. -/

def needO : SA → List Nat → Option (List OB)
  | .need obs _, Z => obs Z
  | _, _ => none

def needS : SA → SA
  | .need _ k => k
  | _ => .bad

/-- Z: the operations that leave the heap as it is; l: what is to be shown. -/
theorem sy_need (n : Nat) {t : SA} (Z : List Nat) (l : List OB) (he : needO (goS n t) Z = some l) (hl : AllOB l) (hk : Ok Q (needS (goS n t))) : Ok Q t := by
  refine ok_go n ?_
  revert he hk
  generalize goS n t = u
  intro he hk
  cases u with
  | need obs k => exact ⟨⟨Z, l, he, hl⟩, hk⟩
  | _ => cases he

/-! What stands in a new place. -/

theorem get_new (h : Hp) (o : AObj) : (h.new o).get h.next = some o := by
  simp [Hp.new, Hp.get, Tr.get_set]

theorem get_put (h : Hp) (i : Nat) (o : AObj) : (h.put i o).get i = some o := by
  simp [Hp.put, Hp.get, Tr.get_set]

abbrev ptr (i off : Nat) : Value := .pointer (some ⟨i, off, none⟩)

theorem cells_lone {v : Value} (h : scalar v = true) : v.cells = #[v] := by
  cases v <;> first | rfl | cases h

theorem load1 {P : Program} {h : Hp} {t : TypeId} {i off : Nat} {cs : List Value} {e : TypeId} {opn : Bool} {v : Value} (ha : isAggT P t = some false) (hg : h.get i = some (.cells cs e opn)) (hv : cs[off]? = some v) : loadT P h t (ptr i off) = some v := by
  have hd : cs.drop off = v :: cs.drop (off + 1) := by
    obtain ⟨hlt, rfl⟩ := List.getElem?_eq_some_iff.1 hv
    exact List.drop_eq_getElem_cons hlt
  simp only [loadT, ha, loadN, hg, hd, takeN]

theorem splice1 {cs : List Value} {off : Nat} {v : Value} (h : off < cs.length) : splice cs off [v] = cs.set off v := by
  unfold splice
  rw [List.set_eq_take_append_cons_drop, if_pos h]
  simp

theorem store1 {P : Program} {h : Hp} {t : TypeId} {i off : Nat} {cs : List Value} {e : TypeId} {opn : Bool} {v : Value} (hs : sizeT P t = some 1) (hv : scalar v = true) (hg : h.get i = some (.cells cs e opn)) (ho : off < cs.length) : storeT P h t (ptr i off) v = some (h.put i (.cells (cs.set off v) e opn)) := by
  have hb : Nat.ble (off + [v].length) cs.length = true := Nat.ble_eq_true_of_le (by simp; omega)
  have hc : v.cells = #[v] := cells_lone hv
  have hall : [v].all scalar = true := by simp [hv]
  simp only [storeT, ptr, hs, hc, storeN, hg, hb, hall, splice1 ho]
  rfl

end
end Go.Eng
