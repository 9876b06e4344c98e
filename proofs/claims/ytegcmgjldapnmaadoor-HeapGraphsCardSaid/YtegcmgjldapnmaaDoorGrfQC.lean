/- GrfQC: contracts and laws of GraphO, GraphKW, GraphR. -/
import Derived.Test.YtegcmgjldapnmaaDoorProg
import Derived.KernelRfl
import Derived.Test.YtegcmgjldapnmaaDoorSyF
import Derived.Test.YtegcmgjldapnmaaDoorGrfQB
import Derived.Test.YtegcmgjldapnmaaDoorSyD
import Derived.ChangeSlices
import Derived.ChangeArms
namespace Go.Proofs.YtegcmgjldapnmaaDoor
open Go Go.Eng Nim
set_option maxRecDepth 100000
set_option maxHeartbeats 8000000
theorem sy_any {Q : Value → Hp → Prop} (n : Nat) {t : SA} {p : Value → Prop} {h' : Hp} (he : ∃ v, p v ∧ askR (goS n t) = some (v, h')) (hk : ∀ v, p v → Ok Q (askK (goS n t) v h')) : Ok Q t := by
  obtain ⟨v, hp, e⟩ := he
  exact ok_go n (ok_ask e (hk v hp))
theorem own6 (l : List (List Int)) (hll : l.length < 2 ^ 63) (hrow : ∀ r ∈ l, r.length < 2 ^ 63) (z : Int) (v : Value) (h : Hp) (hg : GrK h v l) (m : Nat) : ∃ H, Ev 100000 (m + 3) 6 [v, I z] h = some (.bool true, H) := by
  refine fn_val ?_
  have W := Sto.start h
  obtain ⟨a, c, hsh⟩ := hg.gr.shape
  subst hsh
  refine ok_go 0 ?_
  refine sy_loop 0 100000 h (α := Nat × Nat × List Value × List (Nat × AObj) × Option Addr × Nat) (fun x => [(0, .slice a l.length c), (1, I z), (5, .slice x.2.2.2.2.1 x.2.2.1.length x.2.2.2.2.2), (6, J x.1)]) (fun x g => x.1 ≤ 202 ∧ x.1 ≤ l.length ∧ .slice x.2.2.2.2.1 x.2.2.1.length x.2.2.2.2.2 = oslV x.2.1 x.2.2.1.length ∧ RowsV x.2.2.2.1 x.2.2.1 (((l.take x.1).map (·.take 20)).map (·.map I)) ∧ Sto h g (x.2.2.2.1 ++ oent x.2.1 32 x.2.2.1)) (fun x _ => 300 - x.1) (0, 0, [], [], none, 0) (by kernel_rfl) (by kernel_rfl)
    ⟨by kernel_rfl, by kernel_rfl, by kernel_rfl, by kernel_rfl, trivial⟩ (show 300 - 0 < 100000 by decide) ⟨Nat.zero_le 202, Nat.zero_le _, rfl, ⟨rfl, fun v hv => (by cases hv), fun i rv r hv => (by cases hv)⟩, W⟩ ?_
  rintro m1 ⟨i, q, vs, L, sa, sc⟩ f1 g ⟨hi, hil, hsl, RS, W⟩ ih
  dsimp only at hi hil hsl RS W
  have hw : IntKind.wrap .i64 (Int.ofNat (i + 1)) = Int.ofNat (i + 1) := wrap_nat (by omega)
  refine ok_go 2 ?_
  refine sy_test 0 (decide (Int.ofNat i < Int.ofNat l.length)) (by kernel_rfl) ?_ ?_
  · intro hlt
    have hlt : i < l.length := ok_nat hlt
    refine ok_go 3 ?_
    refine sy_test 0 (decide (Int.ofNat i < 202)) (by kernel_rfl) ?_ ?_
    · intro h202
      have h202 : i < 202 := ok_nat (b := 202) h202
      obtain ⟨p, rv, hp1, hp2, hr, hwf⟩ := (hg.ext W.ext).row hlt
      have hrl := hrow _ (List.getElem_mem hlt)
      have htk : l.take (i + 1) = l.take i ++ [l[i]] := List.take_succ_eq_append_getElem hlt
      generalize l[i] = r at *
      obtain ⟨ra, rc, hrs⟩ := hr.shape
      rw [List.length_map] at hrs
      subst hrs
      obtain ⟨K, hK, hK1, hK2⟩ : ∃ K : Nat, (if (20 : Int) < Int.ofNat r.length then (20 : Int) else Int.ofNat r.length) = Int.ofNat K ∧ K ≤ r.length ∧ (r.take K) = r.take 20 := by
        by_cases h20 : 20 < r.length
        · exact ⟨20, if_pos (by show (20 : Int) < (r.length : Int); omega), by omega, rfl⟩
        · exact ⟨r.length, if_neg (by show ¬ (20 : Int) < (r.length : Int); omega), Nat.le_refl _, by rw [List.take_length, List.take_of_length_le (by omega)]⟩
      obtain ⟨y, hy1, hy2⟩ := cut_row hwf hr (K := K) (by rw [List.length_map]; exact hK1)
      rw [← List.map_take, hK2] at hy2
      have hy1 : sliceOp Tryd.prog 32 (.slice ra r.length rc) none (some (.int .i64 (Int.ofNat K))) none = some y := hy1
      rw [← hK] at hy1
      refine ok_go 0 ?_
      refine sy_load 0 (r := indexAddrOp Tryd.prog 31 (.slice a l.length c) (J i)) (h' := g) (by kernel_rfl) hp1 ?_
      refine ok_go 0 ?_
      refine sy_load 0 (r := loadT Tryd.prog g 32 p) (h' := g) (by kernel_rfl) hp2 ?_
      refine ok_go 0 ?_
      refine sy_load 0 (r := indexAddrOp Tryd.prog 31 (.slice a l.length c) (J i)) (h' := g) (by kernel_rfl) hp1 ?_
      refine ok_go 0 ?_
      refine sy_load 0 (r := loadT Tryd.prog g 32 p) (h' := g) (by kernel_rfl) hp2 ?_
      refine ok_go 2 ?_
      refine sy_any 0 (p := fun y => Rds g y ((r.take 20).map I)) (h' := g) ?_ ?_
      · cases ra with
        | none =>
          obtain ⟨h1, h2⟩ := hwf
          obtain rfl : r = [] := List.eq_nil_of_length_eq_zero h1
          subst h2
          exact ⟨.slice none 0 0, .inl ⟨⟨_, rfl⟩, rfl⟩, by kernel_rfl⟩
        | some ra =>
          refine ⟨y, hy2, (by kernel_rfl : _ = (sliceOp Tryd.prog 32 (.slice (some ra) r.length rc) none (some (.int .i64 (if (20 : Int) < Int.ofNat r.length then (20 : Int) else Int.ofNat r.length))) none).map (·, g)).trans ?_⟩
          rw [hy1]
          rfl
      intro y hy2
      obtain ⟨ya, yc, rfl⟩ := hy2.shape
      refine ok_go 0 ?_
      refine ow_rds 0 W slz32 hy2 (List.all_eq_true.2 fun x hx => by obtain ⟨y, _, rfl⟩ := List.mem_map.1 hx; rfl) (by rw [List.length_map, List.length_take]; omega) (by kernel_rfl) fun g2 sl2 ng2 hsl2 hsc2 W2 => ?_
      rw [List.append_assoc] at W2
      have W := W2.perm (l' := oent g.next 3 ((r.take 20).map I) ++ (L ++ oent q 32 vs)) (by rw [← List.append_assoc L]; exact List.perm_append_comm)
      obtain ⟨oa, oc, hos⟩ : ∃ a c, oslV g.next ((r.take 20).map I).length = .slice a ((r.take 20).map I).length c := by
        cases ((r.take 20).map I).length
        · exact ⟨_, _, rfl⟩
        · exact ⟨_, _, rfl⟩
      have RV := oent_row (q := g.next) (vs := (r.take 20).map I)
      rw [hos] at hsl2 RV
      subst hsl2
      refine ok_go 0 ?_
      refine ow_new 0 W (.cells [.slice oa ((r.take 20).map I).length oc] 32 false) (fun q => .slice (some ⟨q, 0, none⟩) 1 2) (by kernel_rfl) fun g3 ng3 W => ?_
      refine ok_go 0 ?_
      refine app_rowV 0 W hsl RS rfl RV (by rw [List.length_map, List.length_map, List.length_take]; omega) (by kernel_rfl) fun g4 sl4 hsl4 hsc4 RS4 W4 => ?_
      obtain ⟨na, nc, hns⟩ : ∃ a c, oslV g3.next (vs ++ [Value.slice oa ((r.take 20).map I).length oc]).length = .slice a (vs ++ [Value.slice oa ((r.take 20).map I).length oc]).length c := by
        cases (vs ++ [Value.slice oa ((r.take 20).map I).length oc]).length
        · exact ⟨_, _, rfl⟩
        · exact ⟨_, _, rfl⟩
      rw [hns] at hsl4
      subst hsl4
      refine ok_go 1 ?_
      refine sy_next 0 _ g4 (by kernel_rfl) (by kernel_rfl) (ih (i + 1, g3.next, _, _, na, nc) _ g4 ⟨h202, hlt, hns.symm, ?_, W4⟩ (show 300 - (i + 1) < 300 - i by omega) ⟨by kernel_rfl, by kernel_rfl, by kernel_rfl, (by kernel_rfl : _ = Value.int .i64 (IntKind.wrap .i64 (Int.ofNat (i + 1)))).trans (by rw [hw]), trivial⟩)
      dsimp only
      rw [htk, List.map_append, List.map_append]
      exact RS4
    · intro h202
      have GRg : Gr g (.slice sa vs.length sc) ((l.take i).map (·.take 20)) := by rw [hsl]; exact rows_gr RS W.hold
      have X0 : h.Ext g := W.ext
      have hgl : ((l.take i).map (·.take 20)).length ≤ 202 := by rw [List.length_map, List.length_take]; omega
      have hgr : ∀ r ∈ (l.take i).map (·.take 20), r.length ≤ 20 := fun r hr => by obtain ⟨r0, _, rfl⟩ := List.mem_map.1 hr; rw [List.length_take]; omega
      have hvl : vs.length = ((l.take i).map (·.take 20)).length := by rw [RS.len, List.length_map]
      rw [hvl] at GRg
      generalize (l.take i).map (·.take 20) = gl at *
      clear ih RS hsl W hi hil
      refine ok_go 0 ?_
      refine sy_loop 0 100000 g (α := Nat × Int × Option Addr × Nat × List (List Int)) (fun x => [(0, .slice a l.length c), (1, I x.2.1), (5, .slice x.2.2.1 x.2.2.2.2.length x.2.2.2.1), (8, J x.1)]) (fun x g' => x.1 ≤ 2 ∧ h.Ext g' ∧ Gr g' (.slice x.2.2.1 x.2.2.2.2.length x.2.2.2.1) x.2.2.2.2 ∧ x.2.2.2.2.length ≤ 202 ∧ ∀ r ∈ x.2.2.2.2, r.length ≤ 300) (fun x _ => 2 - x.1) (0, z, sa, sc, gl) (by kernel_rfl) (by kernel_rfl)
        ⟨by kernel_rfl, by kernel_rfl, (by kernel_rfl : _ = Value.slice sa vs.length sc).trans (by rw [hvl]), by kernel_rfl, trivial⟩ (show 2 - 0 < 100000 by decide) ⟨Nat.zero_le 2, X0, GRg, hgl, fun r hr => by have := hgr r hr; omega⟩ ?_
      clear GRg X0 hgl hgr hvl hw
      rintro m2 ⟨k, z, sa, sc, gl⟩ f2 g ⟨hk, X0, GRg, hgl, hgr⟩ ih
      dsimp only at hk X0 GRg hgl hgr
      have hw : IntKind.wrap .i64 (Int.ofNat (k + 1)) = Int.ofNat (k + 1) := wrap_nat (by omega)
      refine ok_go 1 ?_
      refine sy_test 0 (decide (Int.ofNat k < 2)) (by kernel_rfl) ?_ ?_
      · intro hk2
        have hk2 : k < 2 := ok_nat (b := 2) hk2
        obtain ⟨_, g19, e19, hg19, h19⟩ := s19 gl 100000 (m + 1) (by omega) (fun r hr => by have := hgr r hr; omega) _ g GRg (by decide)
        obtain ⟨_, g20, e20, hg20, h20⟩ := s20 gl 100000 (m + 1) (by omega) (fun r hr => by have := hgr r hr; omega) _ _ GRg (by decide)
        rw [hg19] at e19
        rw [hg20] at e20
        clear hg19 hg20 g19 g20
        by_cases ok : GrOK gl
        · obtain ⟨rfl, _⟩ := h19.resolve_right fun h => h.2 ok
          obtain ⟨rfl, _⟩ := h20.resolve_right fun h => h.2 ok
          obtain ⟨G, rfl, hGd⟩ := good_of ok
          obtain ⟨_, q21, e21, ka, kb, rfl, X21, hka, hkb⟩ := out21 hGd m _ _ GRg
          obtain ⟨aa, ac, has⟩ := hka.shape
          obtain ⟨ba, bc, hbs⟩ := hkb.shape
          rw [cellsF_len] at has hbs
          subst has hbs
          have GR1 := GRg.ext X21
          refine ok_go 0 ?_
          refine sy_call 0 (by kernel_rfl) e19 ?_
          refine ok_go 0 ?_
          refine sy_call 0 (by kernel_rfl) e20 ?_
          refine ok_go 2 ?_
          refine sy_call 0 (by kernel_rfl) e21 ?_
          refine ok_go 3 ?_
          by_cases hz : 0 ≤ z ∧ z < ((gI G).length : Int)
          · obtain ⟨i, rfl⟩ := Int.eq_ofNat_of_zero_le hz.1
            have hi : i < G.length := by have := hz.2; rw [gI_len] at this; exact Int.ofNat_lt.1 this
            obtain ⟨_, q22, e22, X22, rfl⟩ := out22 hGd m _ _ GR1 i hi
            have GR2 := GR1.ext X22
            refine sy_call 0 (by kernel_rfl) e22 ?_
            obtain ⟨_, q23, e23, kc, kd, rfl, X23, hkc, hkd⟩ := s23 G 100000 (m + 1) hGd.l1 hGd.l2 (by decide) (fun i t ht => (hGd.r i).2 t ht) hGd.len _ _ GR2
            have GR3 := GR2.ext X23
            have oc := s23 G 100000 m hGd.l1 hGd.l2 (by decide) (fun i t ht => (hGd.r i).2 t ht) hGd.len _ _ GR3
            obtain ⟨_, q25, e25, X25, rfl⟩ := s25 G i hi 100000 (m + 1) hGd.l2 (by decide) (fun i t ht => (hGd.r i).2 t ht) hGd.len _ _ GR3 oc
            obtain ⟨ca, cc, hcs⟩ := hkc.shape
            obtain ⟨da, dc, hds⟩ := hkd.shape
            rw [cellsF_len] at hcs hds
            subst hcs hds
            rw [kF_list] at hka hkc
            rw [dF_list] at hkb hkd
            have ea := s24 _ 100000 (m + 1) (by rw [List.length_map, List.length_range]; have := hGd.l2; omega) (by decide) _ _ _ (hka.ext (X22.trans X23)) hkc
            have eb := s24 _ 100000 (m + 1) (by rw [List.length_map, List.length_range]; have := hGd.l2; omega) (by decide) _ _ _ (hkb.ext (X22.trans X23)) hkd
            cases hb : bestP G (refS G (G.length + 1)) i with
            | none =>
              rw [hb] at e25
              dsimp only at e25
              refine ok_go 6 ?_
              refine sy_test 0 (decide (Int.ofNat (gI G).length ≤ 40)) (by kernel_rfl) ?_ ?_
              · intro _
                refine ok_go 0 ?_
                refine sy_call 0 (by kernel_rfl) e23 ?_
                refine ok_go 6 ?_
                refine sy_call 0 (by kernel_rfl) ea ?_
                refine ok_go 6 ?_
                refine sy_call 0 (by kernel_rfl) eb ?_
                refine ok_go 12 ?_
                refine sy_no 0 (b := decide (Int.ofNat i ≥ Int.ofNat (gI G).length)) (by kernel_rfl) (decide_eq_false (by have := hz.2; show ¬ ((gI G).length : Int) ≤ (i : Int); have h2 : (i : Int) < ((gI G).length : Int) := hz.2; omega)) ?_
                refine ok_go 0 ?_
                refine sy_call 0 (by kernel_rfl) e25 ?_
                refine ok_go 10 ?_
                have XE : h.Ext q25 := (((X0.trans X21).trans X22).trans X23).trans X25
                obtain ⟨_, q26, e26, X26, G', hG', hl1, hl2, hGr⟩ := s26 l 20 100000 (m + 1) (by decide) (by decide) (by decide) hll hrow (.slice a l.length c) q25 (hg.gr.ext XE)
                obtain ⟨xa, xc, hxs⟩ := hG'.shape
                subst hxs
                refine ok_go 0 ?_
                refine sy_call 0 (by kernel_rfl) e26 ?_
                refine ok_go 3 ?_
                refine sy_any 0 (p := fun v => ∃ y, v = .int .u64 y) (h' := q26) ?_ ?_
                · have hn : 1 ≤ (gI G').length ∧ (gI G').length ≤ 20 := by rw [gI_len]; exact ⟨hl1, hl2⟩
                  clear hG' X26 e26
                  generalize (gI G').length = n at *
                  obtain rfl | rfl | rfl | rfl | rfl | rfl | rfl | rfl | rfl | rfl | rfl | rfl | rfl | rfl | rfl | rfl | rfl | rfl | rfl | rfl : n = 1 ∨ n = 2 ∨ n = 3 ∨ n = 4 ∨ n = 5 ∨ n = 6 ∨ n = 7 ∨ n = 8 ∨ n = 9 ∨ n = 10 ∨ n = 11 ∨ n = 12 ∨ n = 13 ∨ n = 14 ∨ n = 15 ∨ n = 16 ∨ n = 17 ∨ n = 18 ∨ n = 19 ∨ n = 20 := by omega
                  · exact ⟨.int .u64 ((IntKind.wrap .u64 (Int.ofNat i)).tmod 1), ⟨_, rfl⟩, by kernel_rfl⟩
                  · exact ⟨.int .u64 ((IntKind.wrap .u64 (Int.ofNat i)).tmod 2), ⟨_, rfl⟩, by kernel_rfl⟩
                  · exact ⟨.int .u64 ((IntKind.wrap .u64 (Int.ofNat i)).tmod 3), ⟨_, rfl⟩, by kernel_rfl⟩
                  · exact ⟨.int .u64 ((IntKind.wrap .u64 (Int.ofNat i)).tmod 4), ⟨_, rfl⟩, by kernel_rfl⟩
                  · exact ⟨.int .u64 ((IntKind.wrap .u64 (Int.ofNat i)).tmod 5), ⟨_, rfl⟩, by kernel_rfl⟩
                  · exact ⟨.int .u64 ((IntKind.wrap .u64 (Int.ofNat i)).tmod 6), ⟨_, rfl⟩, by kernel_rfl⟩
                  · exact ⟨.int .u64 ((IntKind.wrap .u64 (Int.ofNat i)).tmod 7), ⟨_, rfl⟩, by kernel_rfl⟩
                  · exact ⟨.int .u64 ((IntKind.wrap .u64 (Int.ofNat i)).tmod 8), ⟨_, rfl⟩, by kernel_rfl⟩
                  · exact ⟨.int .u64 ((IntKind.wrap .u64 (Int.ofNat i)).tmod 9), ⟨_, rfl⟩, by kernel_rfl⟩
                  · exact ⟨.int .u64 ((IntKind.wrap .u64 (Int.ofNat i)).tmod 10), ⟨_, rfl⟩, by kernel_rfl⟩
                  · exact ⟨.int .u64 ((IntKind.wrap .u64 (Int.ofNat i)).tmod 11), ⟨_, rfl⟩, by kernel_rfl⟩
                  · exact ⟨.int .u64 ((IntKind.wrap .u64 (Int.ofNat i)).tmod 12), ⟨_, rfl⟩, by kernel_rfl⟩
                  · exact ⟨.int .u64 ((IntKind.wrap .u64 (Int.ofNat i)).tmod 13), ⟨_, rfl⟩, by kernel_rfl⟩
                  · exact ⟨.int .u64 ((IntKind.wrap .u64 (Int.ofNat i)).tmod 14), ⟨_, rfl⟩, by kernel_rfl⟩
                  · exact ⟨.int .u64 ((IntKind.wrap .u64 (Int.ofNat i)).tmod 15), ⟨_, rfl⟩, by kernel_rfl⟩
                  · exact ⟨.int .u64 ((IntKind.wrap .u64 (Int.ofNat i)).tmod 16), ⟨_, rfl⟩, by kernel_rfl⟩
                  · exact ⟨.int .u64 ((IntKind.wrap .u64 (Int.ofNat i)).tmod 17), ⟨_, rfl⟩, by kernel_rfl⟩
                  · exact ⟨.int .u64 ((IntKind.wrap .u64 (Int.ofNat i)).tmod 18), ⟨_, rfl⟩, by kernel_rfl⟩
                  · exact ⟨.int .u64 ((IntKind.wrap .u64 (Int.ofNat i)).tmod 19), ⟨_, rfl⟩, by kernel_rfl⟩
                  · exact ⟨.int .u64 ((IntKind.wrap .u64 (Int.ofNat i)).tmod 20), ⟨_, rfl⟩, by kernel_rfl⟩
                rintro _ ⟨y, rfl⟩
                refine ok_go 2 ?_
                exact sy_next 0 _ q26 (by kernel_rfl) (by kernel_rfl) (ih (k + 1, IntKind.wrap .i64 y, xa, xc, gI G') _ q26 ⟨hk2, XE.trans X26, hG', by show (gI G').length ≤ 202; rw [gI_len]; omega, fun r hr => by
                  obtain ⟨s, hs, rfl⟩ := List.mem_map.1 hr
                  obtain ⟨j, hj, rfl⟩ := List.getElem_of_mem hs
                  rw [grow_get hj, List.length_map]
                  have := row_short (grow G' j) 0 G'.length (hGr j).1 (fun t ht => ⟨Nat.zero_le _, (hGr j).2 t ht⟩) (Nat.zero_le _)
                  omega⟩ (show 2 - (k + 1) < 2 - k by omega) ⟨by kernel_rfl, by kernel_rfl, by kernel_rfl, (by kernel_rfl : _ = Value.int .i64 (IntKind.wrap .i64 (Int.ofNat (k + 1)))).trans (by rw [hw]), trivial⟩)
              · intro _
                have XE : h.Ext q22 := (X0.trans X21).trans X22
                obtain ⟨_, q26, e26, X26, G', hG', hl1, hl2, hGr⟩ := s26 l 20 100000 (m + 1) (by decide) (by decide) (by decide) hll hrow (.slice a l.length c) q22 (hg.gr.ext XE)
                obtain ⟨xa, xc, hxs⟩ := hG'.shape
                subst hxs
                refine ok_go 0 ?_
                refine sy_call 0 (by kernel_rfl) e26 ?_
                refine ok_go 3 ?_
                refine sy_any 0 (p := fun v => ∃ y, v = .int .u64 y) (h' := q26) ?_ ?_
                · have hn : 1 ≤ (gI G').length ∧ (gI G').length ≤ 20 := by rw [gI_len]; exact ⟨hl1, hl2⟩
                  clear hG' X26 e26
                  generalize (gI G').length = n at *
                  obtain rfl | rfl | rfl | rfl | rfl | rfl | rfl | rfl | rfl | rfl | rfl | rfl | rfl | rfl | rfl | rfl | rfl | rfl | rfl | rfl : n = 1 ∨ n = 2 ∨ n = 3 ∨ n = 4 ∨ n = 5 ∨ n = 6 ∨ n = 7 ∨ n = 8 ∨ n = 9 ∨ n = 10 ∨ n = 11 ∨ n = 12 ∨ n = 13 ∨ n = 14 ∨ n = 15 ∨ n = 16 ∨ n = 17 ∨ n = 18 ∨ n = 19 ∨ n = 20 := by omega
                  · exact ⟨.int .u64 ((IntKind.wrap .u64 (Int.ofNat i)).tmod 1), ⟨_, rfl⟩, by kernel_rfl⟩
                  · exact ⟨.int .u64 ((IntKind.wrap .u64 (Int.ofNat i)).tmod 2), ⟨_, rfl⟩, by kernel_rfl⟩
                  · exact ⟨.int .u64 ((IntKind.wrap .u64 (Int.ofNat i)).tmod 3), ⟨_, rfl⟩, by kernel_rfl⟩
                  · exact ⟨.int .u64 ((IntKind.wrap .u64 (Int.ofNat i)).tmod 4), ⟨_, rfl⟩, by kernel_rfl⟩
                  · exact ⟨.int .u64 ((IntKind.wrap .u64 (Int.ofNat i)).tmod 5), ⟨_, rfl⟩, by kernel_rfl⟩
                  · exact ⟨.int .u64 ((IntKind.wrap .u64 (Int.ofNat i)).tmod 6), ⟨_, rfl⟩, by kernel_rfl⟩
                  · exact ⟨.int .u64 ((IntKind.wrap .u64 (Int.ofNat i)).tmod 7), ⟨_, rfl⟩, by kernel_rfl⟩
                  · exact ⟨.int .u64 ((IntKind.wrap .u64 (Int.ofNat i)).tmod 8), ⟨_, rfl⟩, by kernel_rfl⟩
                  · exact ⟨.int .u64 ((IntKind.wrap .u64 (Int.ofNat i)).tmod 9), ⟨_, rfl⟩, by kernel_rfl⟩
                  · exact ⟨.int .u64 ((IntKind.wrap .u64 (Int.ofNat i)).tmod 10), ⟨_, rfl⟩, by kernel_rfl⟩
                  · exact ⟨.int .u64 ((IntKind.wrap .u64 (Int.ofNat i)).tmod 11), ⟨_, rfl⟩, by kernel_rfl⟩
                  · exact ⟨.int .u64 ((IntKind.wrap .u64 (Int.ofNat i)).tmod 12), ⟨_, rfl⟩, by kernel_rfl⟩
                  · exact ⟨.int .u64 ((IntKind.wrap .u64 (Int.ofNat i)).tmod 13), ⟨_, rfl⟩, by kernel_rfl⟩
                  · exact ⟨.int .u64 ((IntKind.wrap .u64 (Int.ofNat i)).tmod 14), ⟨_, rfl⟩, by kernel_rfl⟩
                  · exact ⟨.int .u64 ((IntKind.wrap .u64 (Int.ofNat i)).tmod 15), ⟨_, rfl⟩, by kernel_rfl⟩
                  · exact ⟨.int .u64 ((IntKind.wrap .u64 (Int.ofNat i)).tmod 16), ⟨_, rfl⟩, by kernel_rfl⟩
                  · exact ⟨.int .u64 ((IntKind.wrap .u64 (Int.ofNat i)).tmod 17), ⟨_, rfl⟩, by kernel_rfl⟩
                  · exact ⟨.int .u64 ((IntKind.wrap .u64 (Int.ofNat i)).tmod 18), ⟨_, rfl⟩, by kernel_rfl⟩
                  · exact ⟨.int .u64 ((IntKind.wrap .u64 (Int.ofNat i)).tmod 19), ⟨_, rfl⟩, by kernel_rfl⟩
                  · exact ⟨.int .u64 ((IntKind.wrap .u64 (Int.ofNat i)).tmod 20), ⟨_, rfl⟩, by kernel_rfl⟩
                rintro _ ⟨y, rfl⟩
                refine ok_go 2 ?_
                exact sy_next 0 _ q26 (by kernel_rfl) (by kernel_rfl) (ih (k + 1, IntKind.wrap .i64 y, xa, xc, gI G') _ q26 ⟨hk2, XE.trans X26, hG', by show (gI G').length ≤ 202; rw [gI_len]; omega, fun r hr => by
                  obtain ⟨s, hs, rfl⟩ := List.mem_map.1 hr
                  obtain ⟨j, hj, rfl⟩ := List.getElem_of_mem hs
                  rw [grow_get hj, List.length_map]
                  have := row_short (grow G' j) 0 G'.length (hGr j).1 (fun t ht => ⟨Nat.zero_le _, (hGr j).2 t ht⟩) (Nat.zero_le _)
                  omega⟩ (show 2 - (k + 1) < 2 - k by omega) ⟨by kernel_rfl, by kernel_rfl, by kernel_rfl, (by kernel_rfl : _ = Value.int .i64 (IntKind.wrap .i64 (Int.ofNat (k + 1)))).trans (by rw [hw]), trivial⟩)
            | some t =>
              rw [hb] at e25
              dsimp only at e25
              refine ok_go 6 ?_
              refine sy_test 0 (decide (Int.ofNat (gI G).length ≤ 40)) (by kernel_rfl) ?_ ?_
              · intro _
                refine ok_go 0 ?_
                refine sy_call 0 (by kernel_rfl) e23 ?_
                refine ok_go 6 ?_
                refine sy_call 0 (by kernel_rfl) ea ?_
                refine ok_go 6 ?_
                refine sy_call 0 (by kernel_rfl) eb ?_
                refine ok_go 12 ?_
                refine sy_no 0 (b := decide (Int.ofNat i ≥ Int.ofNat (gI G).length)) (by kernel_rfl) (decide_eq_false (by have := hz.2; show ¬ ((gI G).length : Int) ≤ (i : Int); have h2 : (i : Int) < ((gI G).length : Int) := hz.2; omega)) ?_
                refine ok_go 0 ?_
                refine sy_call 0 (by kernel_rfl) e25 ?_
                refine ok_go 10 ?_
                refine sy_no 0 (b := Int.ofNat t != Int.ofNat t) (by kernel_rfl) (bne_self_eq_false _) ?_
                refine ok_go 0 ?_
                have XE : h.Ext q25 := (((X0.trans X21).trans X22).trans X23).trans X25
                obtain ⟨_, q26, e26, X26, G', hG', hl1, hl2, hGr⟩ := s26 l 20 100000 (m + 1) (by decide) (by decide) (by decide) hll hrow (.slice a l.length c) q25 (hg.gr.ext XE)
                obtain ⟨xa, xc, hxs⟩ := hG'.shape
                subst hxs
                refine ok_go 0 ?_
                refine sy_call 0 (by kernel_rfl) e26 ?_
                refine ok_go 3 ?_
                refine sy_any 0 (p := fun v => ∃ y, v = .int .u64 y) (h' := q26) ?_ ?_
                · have hn : 1 ≤ (gI G').length ∧ (gI G').length ≤ 20 := by rw [gI_len]; exact ⟨hl1, hl2⟩
                  clear hG' X26 e26
                  generalize (gI G').length = n at *
                  obtain rfl | rfl | rfl | rfl | rfl | rfl | rfl | rfl | rfl | rfl | rfl | rfl | rfl | rfl | rfl | rfl | rfl | rfl | rfl | rfl : n = 1 ∨ n = 2 ∨ n = 3 ∨ n = 4 ∨ n = 5 ∨ n = 6 ∨ n = 7 ∨ n = 8 ∨ n = 9 ∨ n = 10 ∨ n = 11 ∨ n = 12 ∨ n = 13 ∨ n = 14 ∨ n = 15 ∨ n = 16 ∨ n = 17 ∨ n = 18 ∨ n = 19 ∨ n = 20 := by omega
                  · exact ⟨.int .u64 ((IntKind.wrap .u64 (Int.ofNat i)).tmod 1), ⟨_, rfl⟩, by kernel_rfl⟩
                  · exact ⟨.int .u64 ((IntKind.wrap .u64 (Int.ofNat i)).tmod 2), ⟨_, rfl⟩, by kernel_rfl⟩
                  · exact ⟨.int .u64 ((IntKind.wrap .u64 (Int.ofNat i)).tmod 3), ⟨_, rfl⟩, by kernel_rfl⟩
                  · exact ⟨.int .u64 ((IntKind.wrap .u64 (Int.ofNat i)).tmod 4), ⟨_, rfl⟩, by kernel_rfl⟩
                  · exact ⟨.int .u64 ((IntKind.wrap .u64 (Int.ofNat i)).tmod 5), ⟨_, rfl⟩, by kernel_rfl⟩
                  · exact ⟨.int .u64 ((IntKind.wrap .u64 (Int.ofNat i)).tmod 6), ⟨_, rfl⟩, by kernel_rfl⟩
                  · exact ⟨.int .u64 ((IntKind.wrap .u64 (Int.ofNat i)).tmod 7), ⟨_, rfl⟩, by kernel_rfl⟩
                  · exact ⟨.int .u64 ((IntKind.wrap .u64 (Int.ofNat i)).tmod 8), ⟨_, rfl⟩, by kernel_rfl⟩
                  · exact ⟨.int .u64 ((IntKind.wrap .u64 (Int.ofNat i)).tmod 9), ⟨_, rfl⟩, by kernel_rfl⟩
                  · exact ⟨.int .u64 ((IntKind.wrap .u64 (Int.ofNat i)).tmod 10), ⟨_, rfl⟩, by kernel_rfl⟩
                  · exact ⟨.int .u64 ((IntKind.wrap .u64 (Int.ofNat i)).tmod 11), ⟨_, rfl⟩, by kernel_rfl⟩
                  · exact ⟨.int .u64 ((IntKind.wrap .u64 (Int.ofNat i)).tmod 12), ⟨_, rfl⟩, by kernel_rfl⟩
                  · exact ⟨.int .u64 ((IntKind.wrap .u64 (Int.ofNat i)).tmod 13), ⟨_, rfl⟩, by kernel_rfl⟩
                  · exact ⟨.int .u64 ((IntKind.wrap .u64 (Int.ofNat i)).tmod 14), ⟨_, rfl⟩, by kernel_rfl⟩
                  · exact ⟨.int .u64 ((IntKind.wrap .u64 (Int.ofNat i)).tmod 15), ⟨_, rfl⟩, by kernel_rfl⟩
                  · exact ⟨.int .u64 ((IntKind.wrap .u64 (Int.ofNat i)).tmod 16), ⟨_, rfl⟩, by kernel_rfl⟩
                  · exact ⟨.int .u64 ((IntKind.wrap .u64 (Int.ofNat i)).tmod 17), ⟨_, rfl⟩, by kernel_rfl⟩
                  · exact ⟨.int .u64 ((IntKind.wrap .u64 (Int.ofNat i)).tmod 18), ⟨_, rfl⟩, by kernel_rfl⟩
                  · exact ⟨.int .u64 ((IntKind.wrap .u64 (Int.ofNat i)).tmod 19), ⟨_, rfl⟩, by kernel_rfl⟩
                  · exact ⟨.int .u64 ((IntKind.wrap .u64 (Int.ofNat i)).tmod 20), ⟨_, rfl⟩, by kernel_rfl⟩
                rintro _ ⟨y, rfl⟩
                refine ok_go 2 ?_
                exact sy_next 0 _ q26 (by kernel_rfl) (by kernel_rfl) (ih (k + 1, IntKind.wrap .i64 y, xa, xc, gI G') _ q26 ⟨hk2, XE.trans X26, hG', by show (gI G').length ≤ 202; rw [gI_len]; omega, fun r hr => by
                  obtain ⟨s, hs, rfl⟩ := List.mem_map.1 hr
                  obtain ⟨j, hj, rfl⟩ := List.getElem_of_mem hs
                  rw [grow_get hj, List.length_map]
                  have := row_short (grow G' j) 0 G'.length (hGr j).1 (fun t ht => ⟨Nat.zero_le _, (hGr j).2 t ht⟩) (Nat.zero_le _)
                  omega⟩ (show 2 - (k + 1) < 2 - k by omega) ⟨by kernel_rfl, by kernel_rfl, by kernel_rfl, (by kernel_rfl : _ = Value.int .i64 (IntKind.wrap .i64 (Int.ofNat (k + 1)))).trans (by rw [hw]), trivial⟩)
              · intro _
                have XE : h.Ext q22 := (X0.trans X21).trans X22
                obtain ⟨_, q26, e26, X26, G', hG', hl1, hl2, hGr⟩ := s26 l 20 100000 (m + 1) (by decide) (by decide) (by decide) hll hrow (.slice a l.length c) q22 (hg.gr.ext XE)
                obtain ⟨xa, xc, hxs⟩ := hG'.shape
                subst hxs
                refine ok_go 0 ?_
                refine sy_call 0 (by kernel_rfl) e26 ?_
                refine ok_go 3 ?_
                refine sy_any 0 (p := fun v => ∃ y, v = .int .u64 y) (h' := q26) ?_ ?_
                · have hn : 1 ≤ (gI G').length ∧ (gI G').length ≤ 20 := by rw [gI_len]; exact ⟨hl1, hl2⟩
                  clear hG' X26 e26
                  generalize (gI G').length = n at *
                  obtain rfl | rfl | rfl | rfl | rfl | rfl | rfl | rfl | rfl | rfl | rfl | rfl | rfl | rfl | rfl | rfl | rfl | rfl | rfl | rfl : n = 1 ∨ n = 2 ∨ n = 3 ∨ n = 4 ∨ n = 5 ∨ n = 6 ∨ n = 7 ∨ n = 8 ∨ n = 9 ∨ n = 10 ∨ n = 11 ∨ n = 12 ∨ n = 13 ∨ n = 14 ∨ n = 15 ∨ n = 16 ∨ n = 17 ∨ n = 18 ∨ n = 19 ∨ n = 20 := by omega
                  · exact ⟨.int .u64 ((IntKind.wrap .u64 (Int.ofNat i)).tmod 1), ⟨_, rfl⟩, by kernel_rfl⟩
                  · exact ⟨.int .u64 ((IntKind.wrap .u64 (Int.ofNat i)).tmod 2), ⟨_, rfl⟩, by kernel_rfl⟩
                  · exact ⟨.int .u64 ((IntKind.wrap .u64 (Int.ofNat i)).tmod 3), ⟨_, rfl⟩, by kernel_rfl⟩
                  · exact ⟨.int .u64 ((IntKind.wrap .u64 (Int.ofNat i)).tmod 4), ⟨_, rfl⟩, by kernel_rfl⟩
                  · exact ⟨.int .u64 ((IntKind.wrap .u64 (Int.ofNat i)).tmod 5), ⟨_, rfl⟩, by kernel_rfl⟩
                  · exact ⟨.int .u64 ((IntKind.wrap .u64 (Int.ofNat i)).tmod 6), ⟨_, rfl⟩, by kernel_rfl⟩
                  · exact ⟨.int .u64 ((IntKind.wrap .u64 (Int.ofNat i)).tmod 7), ⟨_, rfl⟩, by kernel_rfl⟩
                  · exact ⟨.int .u64 ((IntKind.wrap .u64 (Int.ofNat i)).tmod 8), ⟨_, rfl⟩, by kernel_rfl⟩
                  · exact ⟨.int .u64 ((IntKind.wrap .u64 (Int.ofNat i)).tmod 9), ⟨_, rfl⟩, by kernel_rfl⟩
                  · exact ⟨.int .u64 ((IntKind.wrap .u64 (Int.ofNat i)).tmod 10), ⟨_, rfl⟩, by kernel_rfl⟩
                  · exact ⟨.int .u64 ((IntKind.wrap .u64 (Int.ofNat i)).tmod 11), ⟨_, rfl⟩, by kernel_rfl⟩
                  · exact ⟨.int .u64 ((IntKind.wrap .u64 (Int.ofNat i)).tmod 12), ⟨_, rfl⟩, by kernel_rfl⟩
                  · exact ⟨.int .u64 ((IntKind.wrap .u64 (Int.ofNat i)).tmod 13), ⟨_, rfl⟩, by kernel_rfl⟩
                  · exact ⟨.int .u64 ((IntKind.wrap .u64 (Int.ofNat i)).tmod 14), ⟨_, rfl⟩, by kernel_rfl⟩
                  · exact ⟨.int .u64 ((IntKind.wrap .u64 (Int.ofNat i)).tmod 15), ⟨_, rfl⟩, by kernel_rfl⟩
                  · exact ⟨.int .u64 ((IntKind.wrap .u64 (Int.ofNat i)).tmod 16), ⟨_, rfl⟩, by kernel_rfl⟩
                  · exact ⟨.int .u64 ((IntKind.wrap .u64 (Int.ofNat i)).tmod 17), ⟨_, rfl⟩, by kernel_rfl⟩
                  · exact ⟨.int .u64 ((IntKind.wrap .u64 (Int.ofNat i)).tmod 18), ⟨_, rfl⟩, by kernel_rfl⟩
                  · exact ⟨.int .u64 ((IntKind.wrap .u64 (Int.ofNat i)).tmod 19), ⟨_, rfl⟩, by kernel_rfl⟩
                  · exact ⟨.int .u64 ((IntKind.wrap .u64 (Int.ofNat i)).tmod 20), ⟨_, rfl⟩, by kernel_rfl⟩
                rintro _ ⟨y, rfl⟩
                refine ok_go 2 ?_
                exact sy_next 0 _ q26 (by kernel_rfl) (by kernel_rfl) (ih (k + 1, IntKind.wrap .i64 y, xa, xc, gI G') _ q26 ⟨hk2, XE.trans X26, hG', by show (gI G').length ≤ 202; rw [gI_len]; omega, fun r hr => by
                  obtain ⟨s, hs, rfl⟩ := List.mem_map.1 hr
                  obtain ⟨j, hj, rfl⟩ := List.getElem_of_mem hs
                  rw [grow_get hj, List.length_map]
                  have := row_short (grow G' j) 0 G'.length (hGr j).1 (fun t ht => ⟨Nat.zero_le _, (hGr j).2 t ht⟩) (Nat.zero_le _)
                  omega⟩ (show 2 - (k + 1) < 2 - k by omega) ⟨by kernel_rfl, by kernel_rfl, by kernel_rfl, (by kernel_rfl : _ = Value.int .i64 (IntKind.wrap .i64 (Int.ofNat (k + 1)))).trans (by rw [hw]), trivial⟩)
          · have e22 := s22_arg (gI G).length 100000 (m + 1) sa sc z hz q21 (chk0 hGd m _ _ GR1)
            refine sy_call 0 (by kernel_rfl) e22 ?_
            obtain ⟨_, q23, e23, kc, kd, rfl, X23, hkc, hkd⟩ := s23 G 100000 (m + 1) hGd.l1 hGd.l2 (by decide) (fun i t ht => (hGd.r i).2 t ht) hGd.len _ _ GR1
            obtain ⟨ca, cc, hcs⟩ := hkc.shape
            obtain ⟨da, dc, hds⟩ := hkd.shape
            rw [cellsF_len] at hcs hds
            subst hcs hds
            rw [kF_list] at hka hkc
            rw [dF_list] at hkb hkd
            have ea := s24 _ 100000 (m + 1) (by rw [List.length_map, List.length_range]; have := hGd.l2; omega) (by decide) _ _ _ (hka.ext X23) hkc
            have eb := s24 _ 100000 (m + 1) (by rw [List.length_map, List.length_range]; have := hGd.l2; omega) (by decide) _ _ _ (hkb.ext X23) hkd
            refine ok_go 6 ?_
            refine sy_test 0 (decide (Int.ofNat (gI G).length ≤ 40)) (by kernel_rfl) ?_ ?_
            · intro _
              refine ok_go 0 ?_
              refine sy_call 0 (by kernel_rfl) e23 ?_
              refine ok_go 6 ?_
              refine sy_call 0 (by kernel_rfl) ea ?_
              refine ok_go 6 ?_
              refine sy_call 0 (by kernel_rfl) eb ?_
              refine ok_go 5 ?_
              by_cases h0 : z < 0
              · refine sy_yes 0 (b := decide (z < 0)) (by kernel_rfl) (decide_eq_true h0) ?_
                refine ok_go 11 ?_
                have XE : h.Ext q23 := (X0.trans X21).trans X23
                obtain ⟨_, q26, e26, X26, G', hG', hl1, hl2, hGr⟩ := s26 l 20 100000 (m + 1) (by decide) (by decide) (by decide) hll hrow (.slice a l.length c) q23 (hg.gr.ext XE)
                obtain ⟨xa, xc, hxs⟩ := hG'.shape
                subst hxs
                refine ok_go 0 ?_
                refine sy_call 0 (by kernel_rfl) e26 ?_
                refine ok_go 3 ?_
                refine sy_any 0 (p := fun v => ∃ y, v = .int .u64 y) (h' := q26) ?_ ?_
                · have hn : 1 ≤ (gI G').length ∧ (gI G').length ≤ 20 := by rw [gI_len]; exact ⟨hl1, hl2⟩
                  clear hG' X26 e26
                  generalize (gI G').length = n at *
                  obtain rfl | rfl | rfl | rfl | rfl | rfl | rfl | rfl | rfl | rfl | rfl | rfl | rfl | rfl | rfl | rfl | rfl | rfl | rfl | rfl : n = 1 ∨ n = 2 ∨ n = 3 ∨ n = 4 ∨ n = 5 ∨ n = 6 ∨ n = 7 ∨ n = 8 ∨ n = 9 ∨ n = 10 ∨ n = 11 ∨ n = 12 ∨ n = 13 ∨ n = 14 ∨ n = 15 ∨ n = 16 ∨ n = 17 ∨ n = 18 ∨ n = 19 ∨ n = 20 := by omega
                  · exact ⟨.int .u64 ((IntKind.wrap .u64 (z)).tmod 1), ⟨_, rfl⟩, by kernel_rfl⟩
                  · exact ⟨.int .u64 ((IntKind.wrap .u64 (z)).tmod 2), ⟨_, rfl⟩, by kernel_rfl⟩
                  · exact ⟨.int .u64 ((IntKind.wrap .u64 (z)).tmod 3), ⟨_, rfl⟩, by kernel_rfl⟩
                  · exact ⟨.int .u64 ((IntKind.wrap .u64 (z)).tmod 4), ⟨_, rfl⟩, by kernel_rfl⟩
                  · exact ⟨.int .u64 ((IntKind.wrap .u64 (z)).tmod 5), ⟨_, rfl⟩, by kernel_rfl⟩
                  · exact ⟨.int .u64 ((IntKind.wrap .u64 (z)).tmod 6), ⟨_, rfl⟩, by kernel_rfl⟩
                  · exact ⟨.int .u64 ((IntKind.wrap .u64 (z)).tmod 7), ⟨_, rfl⟩, by kernel_rfl⟩
                  · exact ⟨.int .u64 ((IntKind.wrap .u64 (z)).tmod 8), ⟨_, rfl⟩, by kernel_rfl⟩
                  · exact ⟨.int .u64 ((IntKind.wrap .u64 (z)).tmod 9), ⟨_, rfl⟩, by kernel_rfl⟩
                  · exact ⟨.int .u64 ((IntKind.wrap .u64 (z)).tmod 10), ⟨_, rfl⟩, by kernel_rfl⟩
                  · exact ⟨.int .u64 ((IntKind.wrap .u64 (z)).tmod 11), ⟨_, rfl⟩, by kernel_rfl⟩
                  · exact ⟨.int .u64 ((IntKind.wrap .u64 (z)).tmod 12), ⟨_, rfl⟩, by kernel_rfl⟩
                  · exact ⟨.int .u64 ((IntKind.wrap .u64 (z)).tmod 13), ⟨_, rfl⟩, by kernel_rfl⟩
                  · exact ⟨.int .u64 ((IntKind.wrap .u64 (z)).tmod 14), ⟨_, rfl⟩, by kernel_rfl⟩
                  · exact ⟨.int .u64 ((IntKind.wrap .u64 (z)).tmod 15), ⟨_, rfl⟩, by kernel_rfl⟩
                  · exact ⟨.int .u64 ((IntKind.wrap .u64 (z)).tmod 16), ⟨_, rfl⟩, by kernel_rfl⟩
                  · exact ⟨.int .u64 ((IntKind.wrap .u64 (z)).tmod 17), ⟨_, rfl⟩, by kernel_rfl⟩
                  · exact ⟨.int .u64 ((IntKind.wrap .u64 (z)).tmod 18), ⟨_, rfl⟩, by kernel_rfl⟩
                  · exact ⟨.int .u64 ((IntKind.wrap .u64 (z)).tmod 19), ⟨_, rfl⟩, by kernel_rfl⟩
                  · exact ⟨.int .u64 ((IntKind.wrap .u64 (z)).tmod 20), ⟨_, rfl⟩, by kernel_rfl⟩
                rintro _ ⟨y, rfl⟩
                refine ok_go 2 ?_
                exact sy_next 0 _ q26 (by kernel_rfl) (by kernel_rfl) (ih (k + 1, IntKind.wrap .i64 y, xa, xc, gI G') _ q26 ⟨hk2, XE.trans X26, hG', by show (gI G').length ≤ 202; rw [gI_len]; omega, fun r hr => by
                  obtain ⟨s, hs, rfl⟩ := List.mem_map.1 hr
                  obtain ⟨j, hj, rfl⟩ := List.getElem_of_mem hs
                  rw [grow_get hj, List.length_map]
                  have := row_short (grow G' j) 0 G'.length (hGr j).1 (fun t ht => ⟨Nat.zero_le _, (hGr j).2 t ht⟩) (Nat.zero_le _)
                  omega⟩ (show 2 - (k + 1) < 2 - k by omega) ⟨by kernel_rfl, by kernel_rfl, by kernel_rfl, (by kernel_rfl : _ = Value.int .i64 (IntKind.wrap .i64 (Int.ofNat (k + 1)))).trans (by rw [hw]), trivial⟩)
              · refine sy_no 0 (b := decide (z < 0)) (by kernel_rfl) (decide_eq_false h0) ?_
                refine ok_go 6 ?_
                refine sy_yes 0 (b := decide (z ≥ Int.ofNat (gI G).length)) (by kernel_rfl) (decide_eq_true (by show ((gI G).length : Int) ≤ z; omega)) ?_
                refine ok_go 6 ?_
                have XE : h.Ext q23 := (X0.trans X21).trans X23
                obtain ⟨_, q26, e26, X26, G', hG', hl1, hl2, hGr⟩ := s26 l 20 100000 (m + 1) (by decide) (by decide) (by decide) hll hrow (.slice a l.length c) q23 (hg.gr.ext XE)
                obtain ⟨xa, xc, hxs⟩ := hG'.shape
                subst hxs
                refine ok_go 0 ?_
                refine sy_call 0 (by kernel_rfl) e26 ?_
                refine ok_go 3 ?_
                refine sy_any 0 (p := fun v => ∃ y, v = .int .u64 y) (h' := q26) ?_ ?_
                · have hn : 1 ≤ (gI G').length ∧ (gI G').length ≤ 20 := by rw [gI_len]; exact ⟨hl1, hl2⟩
                  clear hG' X26 e26
                  generalize (gI G').length = n at *
                  obtain rfl | rfl | rfl | rfl | rfl | rfl | rfl | rfl | rfl | rfl | rfl | rfl | rfl | rfl | rfl | rfl | rfl | rfl | rfl | rfl : n = 1 ∨ n = 2 ∨ n = 3 ∨ n = 4 ∨ n = 5 ∨ n = 6 ∨ n = 7 ∨ n = 8 ∨ n = 9 ∨ n = 10 ∨ n = 11 ∨ n = 12 ∨ n = 13 ∨ n = 14 ∨ n = 15 ∨ n = 16 ∨ n = 17 ∨ n = 18 ∨ n = 19 ∨ n = 20 := by omega
                  · exact ⟨.int .u64 ((IntKind.wrap .u64 (z)).tmod 1), ⟨_, rfl⟩, by kernel_rfl⟩
                  · exact ⟨.int .u64 ((IntKind.wrap .u64 (z)).tmod 2), ⟨_, rfl⟩, by kernel_rfl⟩
                  · exact ⟨.int .u64 ((IntKind.wrap .u64 (z)).tmod 3), ⟨_, rfl⟩, by kernel_rfl⟩
                  · exact ⟨.int .u64 ((IntKind.wrap .u64 (z)).tmod 4), ⟨_, rfl⟩, by kernel_rfl⟩
                  · exact ⟨.int .u64 ((IntKind.wrap .u64 (z)).tmod 5), ⟨_, rfl⟩, by kernel_rfl⟩
                  · exact ⟨.int .u64 ((IntKind.wrap .u64 (z)).tmod 6), ⟨_, rfl⟩, by kernel_rfl⟩
                  · exact ⟨.int .u64 ((IntKind.wrap .u64 (z)).tmod 7), ⟨_, rfl⟩, by kernel_rfl⟩
                  · exact ⟨.int .u64 ((IntKind.wrap .u64 (z)).tmod 8), ⟨_, rfl⟩, by kernel_rfl⟩
                  · exact ⟨.int .u64 ((IntKind.wrap .u64 (z)).tmod 9), ⟨_, rfl⟩, by kernel_rfl⟩
                  · exact ⟨.int .u64 ((IntKind.wrap .u64 (z)).tmod 10), ⟨_, rfl⟩, by kernel_rfl⟩
                  · exact ⟨.int .u64 ((IntKind.wrap .u64 (z)).tmod 11), ⟨_, rfl⟩, by kernel_rfl⟩
                  · exact ⟨.int .u64 ((IntKind.wrap .u64 (z)).tmod 12), ⟨_, rfl⟩, by kernel_rfl⟩
                  · exact ⟨.int .u64 ((IntKind.wrap .u64 (z)).tmod 13), ⟨_, rfl⟩, by kernel_rfl⟩
                  · exact ⟨.int .u64 ((IntKind.wrap .u64 (z)).tmod 14), ⟨_, rfl⟩, by kernel_rfl⟩
                  · exact ⟨.int .u64 ((IntKind.wrap .u64 (z)).tmod 15), ⟨_, rfl⟩, by kernel_rfl⟩
                  · exact ⟨.int .u64 ((IntKind.wrap .u64 (z)).tmod 16), ⟨_, rfl⟩, by kernel_rfl⟩
                  · exact ⟨.int .u64 ((IntKind.wrap .u64 (z)).tmod 17), ⟨_, rfl⟩, by kernel_rfl⟩
                  · exact ⟨.int .u64 ((IntKind.wrap .u64 (z)).tmod 18), ⟨_, rfl⟩, by kernel_rfl⟩
                  · exact ⟨.int .u64 ((IntKind.wrap .u64 (z)).tmod 19), ⟨_, rfl⟩, by kernel_rfl⟩
                  · exact ⟨.int .u64 ((IntKind.wrap .u64 (z)).tmod 20), ⟨_, rfl⟩, by kernel_rfl⟩
                rintro _ ⟨y, rfl⟩
                refine ok_go 2 ?_
                exact sy_next 0 _ q26 (by kernel_rfl) (by kernel_rfl) (ih (k + 1, IntKind.wrap .i64 y, xa, xc, gI G') _ q26 ⟨hk2, XE.trans X26, hG', by show (gI G').length ≤ 202; rw [gI_len]; omega, fun r hr => by
                  obtain ⟨s, hs, rfl⟩ := List.mem_map.1 hr
                  obtain ⟨j, hj, rfl⟩ := List.getElem_of_mem hs
                  rw [grow_get hj, List.length_map]
                  have := row_short (grow G' j) 0 G'.length (hGr j).1 (fun t ht => ⟨Nat.zero_le _, (hGr j).2 t ht⟩) (Nat.zero_le _)
                  omega⟩ (show 2 - (k + 1) < 2 - k by omega) ⟨by kernel_rfl, by kernel_rfl, by kernel_rfl, (by kernel_rfl : _ = Value.int .i64 (IntKind.wrap .i64 (Int.ofNat (k + 1)))).trans (by rw [hw]), trivial⟩)
            · intro _
              have XE : h.Ext q21 := X0.trans X21
              obtain ⟨_, q26, e26, X26, G', hG', hl1, hl2, hGr⟩ := s26 l 20 100000 (m + 1) (by decide) (by decide) (by decide) hll hrow (.slice a l.length c) q21 (hg.gr.ext XE)
              obtain ⟨xa, xc, hxs⟩ := hG'.shape
              subst hxs
              refine ok_go 0 ?_
              refine sy_call 0 (by kernel_rfl) e26 ?_
              refine ok_go 3 ?_
              refine sy_any 0 (p := fun v => ∃ y, v = .int .u64 y) (h' := q26) ?_ ?_
              · have hn : 1 ≤ (gI G').length ∧ (gI G').length ≤ 20 := by rw [gI_len]; exact ⟨hl1, hl2⟩
                clear hG' X26 e26
                generalize (gI G').length = n at *
                obtain rfl | rfl | rfl | rfl | rfl | rfl | rfl | rfl | rfl | rfl | rfl | rfl | rfl | rfl | rfl | rfl | rfl | rfl | rfl | rfl : n = 1 ∨ n = 2 ∨ n = 3 ∨ n = 4 ∨ n = 5 ∨ n = 6 ∨ n = 7 ∨ n = 8 ∨ n = 9 ∨ n = 10 ∨ n = 11 ∨ n = 12 ∨ n = 13 ∨ n = 14 ∨ n = 15 ∨ n = 16 ∨ n = 17 ∨ n = 18 ∨ n = 19 ∨ n = 20 := by omega
                · exact ⟨.int .u64 ((IntKind.wrap .u64 (z)).tmod 1), ⟨_, rfl⟩, by kernel_rfl⟩
                · exact ⟨.int .u64 ((IntKind.wrap .u64 (z)).tmod 2), ⟨_, rfl⟩, by kernel_rfl⟩
                · exact ⟨.int .u64 ((IntKind.wrap .u64 (z)).tmod 3), ⟨_, rfl⟩, by kernel_rfl⟩
                · exact ⟨.int .u64 ((IntKind.wrap .u64 (z)).tmod 4), ⟨_, rfl⟩, by kernel_rfl⟩
                · exact ⟨.int .u64 ((IntKind.wrap .u64 (z)).tmod 5), ⟨_, rfl⟩, by kernel_rfl⟩
                · exact ⟨.int .u64 ((IntKind.wrap .u64 (z)).tmod 6), ⟨_, rfl⟩, by kernel_rfl⟩
                · exact ⟨.int .u64 ((IntKind.wrap .u64 (z)).tmod 7), ⟨_, rfl⟩, by kernel_rfl⟩
                · exact ⟨.int .u64 ((IntKind.wrap .u64 (z)).tmod 8), ⟨_, rfl⟩, by kernel_rfl⟩
                · exact ⟨.int .u64 ((IntKind.wrap .u64 (z)).tmod 9), ⟨_, rfl⟩, by kernel_rfl⟩
                · exact ⟨.int .u64 ((IntKind.wrap .u64 (z)).tmod 10), ⟨_, rfl⟩, by kernel_rfl⟩
                · exact ⟨.int .u64 ((IntKind.wrap .u64 (z)).tmod 11), ⟨_, rfl⟩, by kernel_rfl⟩
                · exact ⟨.int .u64 ((IntKind.wrap .u64 (z)).tmod 12), ⟨_, rfl⟩, by kernel_rfl⟩
                · exact ⟨.int .u64 ((IntKind.wrap .u64 (z)).tmod 13), ⟨_, rfl⟩, by kernel_rfl⟩
                · exact ⟨.int .u64 ((IntKind.wrap .u64 (z)).tmod 14), ⟨_, rfl⟩, by kernel_rfl⟩
                · exact ⟨.int .u64 ((IntKind.wrap .u64 (z)).tmod 15), ⟨_, rfl⟩, by kernel_rfl⟩
                · exact ⟨.int .u64 ((IntKind.wrap .u64 (z)).tmod 16), ⟨_, rfl⟩, by kernel_rfl⟩
                · exact ⟨.int .u64 ((IntKind.wrap .u64 (z)).tmod 17), ⟨_, rfl⟩, by kernel_rfl⟩
                · exact ⟨.int .u64 ((IntKind.wrap .u64 (z)).tmod 18), ⟨_, rfl⟩, by kernel_rfl⟩
                · exact ⟨.int .u64 ((IntKind.wrap .u64 (z)).tmod 19), ⟨_, rfl⟩, by kernel_rfl⟩
                · exact ⟨.int .u64 ((IntKind.wrap .u64 (z)).tmod 20), ⟨_, rfl⟩, by kernel_rfl⟩
              rintro _ ⟨y, rfl⟩
              refine ok_go 2 ?_
              exact sy_next 0 _ q26 (by kernel_rfl) (by kernel_rfl) (ih (k + 1, IntKind.wrap .i64 y, xa, xc, gI G') _ q26 ⟨hk2, XE.trans X26, hG', by show (gI G').length ≤ 202; rw [gI_len]; omega, fun r hr => by
                obtain ⟨s, hs, rfl⟩ := List.mem_map.1 hr
                obtain ⟨j, hj, rfl⟩ := List.getElem_of_mem hs
                rw [grow_get hj, List.length_map]
                have := row_short (grow G' j) 0 G'.length (hGr j).1 (fun t ht => ⟨Nat.zero_le _, (hGr j).2 t ht⟩) (Nat.zero_le _)
                omega⟩ (show 2 - (k + 1) < 2 - k by omega) ⟨by kernel_rfl, by kernel_rfl, by kernel_rfl, (by kernel_rfl : _ = Value.int .i64 (IntKind.wrap .i64 (Int.ofNat (k + 1)))).trans (by rw [hw]), trivial⟩)
        · rcases h19 with ⟨_, h⟩ | ⟨rfl, _⟩
          · exact absurd h ok
          rcases h20 with ⟨_, h⟩ | ⟨rfl, _⟩
          · exact absurd h ok
          obtain ⟨_, g20, d20, hg20, h20⟩ := s20 gl 100000 m (by omega) (fun r hr => by have := hgr r hr; omega) _ _ GRg (by decide)
          rw [hg20] at d20
          clear hg20 g20
          rcases h20 with ⟨_, h⟩ | ⟨rfl, _⟩
          · exact absurd h ok
          have e21 := s21_bad 100000 (m + 1) _ _ d20
          have e22 := s22_bad 100000 (m + 1) _ z _ d20
          refine ok_go 0 ?_
          refine sy_call 0 (by kernel_rfl) e19 ?_
          refine ok_go 0 ?_
          refine sy_call 0 (by kernel_rfl) e20 ?_
          refine ok_go 2 ?_
          refine sy_call 0 (by kernel_rfl) e21 ?_
          refine ok_go 3 ?_
          refine sy_call 0 (by kernel_rfl) e22 ?_
          have XE : h.Ext g := X0
          obtain ⟨_, q26, e26, X26, G', hG', hl1, hl2, hGr⟩ := s26 l 20 100000 (m + 1) (by decide) (by decide) (by decide) hll hrow (.slice a l.length c) g (hg.gr.ext XE)
          obtain ⟨xa, xc, hxs⟩ := hG'.shape
          subst hxs
          refine ok_go 26 ?_
          refine sy_call 0 (by kernel_rfl) e26 ?_
          refine ok_go 3 ?_
          refine sy_any 0 (p := fun v => ∃ y, v = .int .u64 y) (h' := q26) ?_ ?_
          · have hn : 1 ≤ (gI G').length ∧ (gI G').length ≤ 20 := by rw [gI_len]; exact ⟨hl1, hl2⟩
            clear hG' X26 e26
            generalize (gI G').length = n at *
            obtain rfl | rfl | rfl | rfl | rfl | rfl | rfl | rfl | rfl | rfl | rfl | rfl | rfl | rfl | rfl | rfl | rfl | rfl | rfl | rfl : n = 1 ∨ n = 2 ∨ n = 3 ∨ n = 4 ∨ n = 5 ∨ n = 6 ∨ n = 7 ∨ n = 8 ∨ n = 9 ∨ n = 10 ∨ n = 11 ∨ n = 12 ∨ n = 13 ∨ n = 14 ∨ n = 15 ∨ n = 16 ∨ n = 17 ∨ n = 18 ∨ n = 19 ∨ n = 20 := by omega
            · exact ⟨.int .u64 ((IntKind.wrap .u64 (z)).tmod 1), ⟨_, rfl⟩, by kernel_rfl⟩
            · exact ⟨.int .u64 ((IntKind.wrap .u64 (z)).tmod 2), ⟨_, rfl⟩, by kernel_rfl⟩
            · exact ⟨.int .u64 ((IntKind.wrap .u64 (z)).tmod 3), ⟨_, rfl⟩, by kernel_rfl⟩
            · exact ⟨.int .u64 ((IntKind.wrap .u64 (z)).tmod 4), ⟨_, rfl⟩, by kernel_rfl⟩
            · exact ⟨.int .u64 ((IntKind.wrap .u64 (z)).tmod 5), ⟨_, rfl⟩, by kernel_rfl⟩
            · exact ⟨.int .u64 ((IntKind.wrap .u64 (z)).tmod 6), ⟨_, rfl⟩, by kernel_rfl⟩
            · exact ⟨.int .u64 ((IntKind.wrap .u64 (z)).tmod 7), ⟨_, rfl⟩, by kernel_rfl⟩
            · exact ⟨.int .u64 ((IntKind.wrap .u64 (z)).tmod 8), ⟨_, rfl⟩, by kernel_rfl⟩
            · exact ⟨.int .u64 ((IntKind.wrap .u64 (z)).tmod 9), ⟨_, rfl⟩, by kernel_rfl⟩
            · exact ⟨.int .u64 ((IntKind.wrap .u64 (z)).tmod 10), ⟨_, rfl⟩, by kernel_rfl⟩
            · exact ⟨.int .u64 ((IntKind.wrap .u64 (z)).tmod 11), ⟨_, rfl⟩, by kernel_rfl⟩
            · exact ⟨.int .u64 ((IntKind.wrap .u64 (z)).tmod 12), ⟨_, rfl⟩, by kernel_rfl⟩
            · exact ⟨.int .u64 ((IntKind.wrap .u64 (z)).tmod 13), ⟨_, rfl⟩, by kernel_rfl⟩
            · exact ⟨.int .u64 ((IntKind.wrap .u64 (z)).tmod 14), ⟨_, rfl⟩, by kernel_rfl⟩
            · exact ⟨.int .u64 ((IntKind.wrap .u64 (z)).tmod 15), ⟨_, rfl⟩, by kernel_rfl⟩
            · exact ⟨.int .u64 ((IntKind.wrap .u64 (z)).tmod 16), ⟨_, rfl⟩, by kernel_rfl⟩
            · exact ⟨.int .u64 ((IntKind.wrap .u64 (z)).tmod 17), ⟨_, rfl⟩, by kernel_rfl⟩
            · exact ⟨.int .u64 ((IntKind.wrap .u64 (z)).tmod 18), ⟨_, rfl⟩, by kernel_rfl⟩
            · exact ⟨.int .u64 ((IntKind.wrap .u64 (z)).tmod 19), ⟨_, rfl⟩, by kernel_rfl⟩
            · exact ⟨.int .u64 ((IntKind.wrap .u64 (z)).tmod 20), ⟨_, rfl⟩, by kernel_rfl⟩
          rintro _ ⟨y, rfl⟩
          refine ok_go 2 ?_
          exact sy_next 0 _ q26 (by kernel_rfl) (by kernel_rfl) (ih (k + 1, IntKind.wrap .i64 y, xa, xc, gI G') _ q26 ⟨hk2, XE.trans X26, hG', by show (gI G').length ≤ 202; rw [gI_len]; omega, fun r hr => by
            obtain ⟨s, hs, rfl⟩ := List.mem_map.1 hr
            obtain ⟨j, hj, rfl⟩ := List.getElem_of_mem hs
            rw [grow_get hj, List.length_map]
            have := row_short (grow G' j) 0 G'.length (hGr j).1 (fun t ht => ⟨Nat.zero_le _, (hGr j).2 t ht⟩) (Nat.zero_le _)
            omega⟩ (show 2 - (k + 1) < 2 - k by omega) ⟨by kernel_rfl, by kernel_rfl, by kernel_rfl, (by kernel_rfl : _ = Value.int .i64 (IntKind.wrap .i64 (Int.ofNat (k + 1)))).trans (by rw [hw]), trivial⟩)
      · intro hk2
        refine sy_done 1 (v := Value.bool true) (h := g) (by kernel_rfl) ?_
        rfl
  · intro hlt
    have GRg : Gr g (.slice sa vs.length sc) ((l.take i).map (·.take 20)) := by rw [hsl]; exact rows_gr RS W.hold
    have X0 : h.Ext g := W.ext
    have hgl : ((l.take i).map (·.take 20)).length ≤ 202 := by rw [List.length_map, List.length_take]; omega
    have hgr : ∀ r ∈ (l.take i).map (·.take 20), r.length ≤ 20 := fun r hr => by obtain ⟨r0, _, rfl⟩ := List.mem_map.1 hr; rw [List.length_take]; omega
    have hvl : vs.length = ((l.take i).map (·.take 20)).length := by rw [RS.len, List.length_map]
    rw [hvl] at GRg
    generalize (l.take i).map (·.take 20) = gl at *
    clear ih RS hsl W hi hil
    refine ok_go 3 ?_
    refine sy_loop 0 100000 g (α := Nat × Int × Option Addr × Nat × List (List Int)) (fun x => [(0, .slice a l.length c), (1, I x.2.1), (5, .slice x.2.2.1 x.2.2.2.2.length x.2.2.2.1), (8, J x.1)]) (fun x g' => x.1 ≤ 2 ∧ h.Ext g' ∧ Gr g' (.slice x.2.2.1 x.2.2.2.2.length x.2.2.2.1) x.2.2.2.2 ∧ x.2.2.2.2.length ≤ 202 ∧ ∀ r ∈ x.2.2.2.2, r.length ≤ 300) (fun x _ => 2 - x.1) (0, z, sa, sc, gl) (by kernel_rfl) (by kernel_rfl)
      ⟨by kernel_rfl, by kernel_rfl, (by kernel_rfl : _ = Value.slice sa vs.length sc).trans (by rw [hvl]), by kernel_rfl, trivial⟩ (show 2 - 0 < 100000 by decide) ⟨Nat.zero_le 2, X0, GRg, hgl, fun r hr => by have := hgr r hr; omega⟩ ?_
    clear GRg X0 hgl hgr hvl hw
    rintro m2 ⟨k, z, sa, sc, gl⟩ f2 g ⟨hk, X0, GRg, hgl, hgr⟩ ih
    dsimp only at hk X0 GRg hgl hgr
    have hw : IntKind.wrap .i64 (Int.ofNat (k + 1)) = Int.ofNat (k + 1) := wrap_nat (by omega)
    refine ok_go 1 ?_
    refine sy_test 0 (decide (Int.ofNat k < 2)) (by kernel_rfl) ?_ ?_
    · intro hk2
      have hk2 : k < 2 := ok_nat (b := 2) hk2
      obtain ⟨_, g19, e19, hg19, h19⟩ := s19 gl 100000 (m + 1) (by omega) (fun r hr => by have := hgr r hr; omega) _ g GRg (by decide)
      obtain ⟨_, g20, e20, hg20, h20⟩ := s20 gl 100000 (m + 1) (by omega) (fun r hr => by have := hgr r hr; omega) _ _ GRg (by decide)
      rw [hg19] at e19
      rw [hg20] at e20
      clear hg19 hg20 g19 g20
      by_cases ok : GrOK gl
      · obtain ⟨rfl, _⟩ := h19.resolve_right fun h => h.2 ok
        obtain ⟨rfl, _⟩ := h20.resolve_right fun h => h.2 ok
        obtain ⟨G, rfl, hGd⟩ := good_of ok
        obtain ⟨_, q21, e21, ka, kb, rfl, X21, hka, hkb⟩ := out21 hGd m _ _ GRg
        obtain ⟨aa, ac, has⟩ := hka.shape
        obtain ⟨ba, bc, hbs⟩ := hkb.shape
        rw [cellsF_len] at has hbs
        subst has hbs
        have GR1 := GRg.ext X21
        refine ok_go 0 ?_
        refine sy_call 0 (by kernel_rfl) e19 ?_
        refine ok_go 0 ?_
        refine sy_call 0 (by kernel_rfl) e20 ?_
        refine ok_go 2 ?_
        refine sy_call 0 (by kernel_rfl) e21 ?_
        refine ok_go 3 ?_
        by_cases hz : 0 ≤ z ∧ z < ((gI G).length : Int)
        · obtain ⟨i, rfl⟩ := Int.eq_ofNat_of_zero_le hz.1
          have hi : i < G.length := by have := hz.2; rw [gI_len] at this; exact Int.ofNat_lt.1 this
          obtain ⟨_, q22, e22, X22, rfl⟩ := out22 hGd m _ _ GR1 i hi
          have GR2 := GR1.ext X22
          refine sy_call 0 (by kernel_rfl) e22 ?_
          obtain ⟨_, q23, e23, kc, kd, rfl, X23, hkc, hkd⟩ := s23 G 100000 (m + 1) hGd.l1 hGd.l2 (by decide) (fun i t ht => (hGd.r i).2 t ht) hGd.len _ _ GR2
          have GR3 := GR2.ext X23
          have oc := s23 G 100000 m hGd.l1 hGd.l2 (by decide) (fun i t ht => (hGd.r i).2 t ht) hGd.len _ _ GR3
          obtain ⟨_, q25, e25, X25, rfl⟩ := s25 G i hi 100000 (m + 1) hGd.l2 (by decide) (fun i t ht => (hGd.r i).2 t ht) hGd.len _ _ GR3 oc
          obtain ⟨ca, cc, hcs⟩ := hkc.shape
          obtain ⟨da, dc, hds⟩ := hkd.shape
          rw [cellsF_len] at hcs hds
          subst hcs hds
          rw [kF_list] at hka hkc
          rw [dF_list] at hkb hkd
          have ea := s24 _ 100000 (m + 1) (by rw [List.length_map, List.length_range]; have := hGd.l2; omega) (by decide) _ _ _ (hka.ext (X22.trans X23)) hkc
          have eb := s24 _ 100000 (m + 1) (by rw [List.length_map, List.length_range]; have := hGd.l2; omega) (by decide) _ _ _ (hkb.ext (X22.trans X23)) hkd
          cases hb : bestP G (refS G (G.length + 1)) i with
          | none =>
            rw [hb] at e25
            dsimp only at e25
            refine ok_go 6 ?_
            refine sy_test 0 (decide (Int.ofNat (gI G).length ≤ 40)) (by kernel_rfl) ?_ ?_
            · intro _
              refine ok_go 0 ?_
              refine sy_call 0 (by kernel_rfl) e23 ?_
              refine ok_go 6 ?_
              refine sy_call 0 (by kernel_rfl) ea ?_
              refine ok_go 6 ?_
              refine sy_call 0 (by kernel_rfl) eb ?_
              refine ok_go 12 ?_
              refine sy_no 0 (b := decide (Int.ofNat i ≥ Int.ofNat (gI G).length)) (by kernel_rfl) (decide_eq_false (by have := hz.2; show ¬ ((gI G).length : Int) ≤ (i : Int); have h2 : (i : Int) < ((gI G).length : Int) := hz.2; omega)) ?_
              refine ok_go 0 ?_
              refine sy_call 0 (by kernel_rfl) e25 ?_
              refine ok_go 10 ?_
              have XE : h.Ext q25 := (((X0.trans X21).trans X22).trans X23).trans X25
              obtain ⟨_, q26, e26, X26, G', hG', hl1, hl2, hGr⟩ := s26 l 20 100000 (m + 1) (by decide) (by decide) (by decide) hll hrow (.slice a l.length c) q25 (hg.gr.ext XE)
              obtain ⟨xa, xc, hxs⟩ := hG'.shape
              subst hxs
              refine ok_go 0 ?_
              refine sy_call 0 (by kernel_rfl) e26 ?_
              refine ok_go 3 ?_
              refine sy_any 0 (p := fun v => ∃ y, v = .int .u64 y) (h' := q26) ?_ ?_
              · have hn : 1 ≤ (gI G').length ∧ (gI G').length ≤ 20 := by rw [gI_len]; exact ⟨hl1, hl2⟩
                clear hG' X26 e26
                generalize (gI G').length = n at *
                obtain rfl | rfl | rfl | rfl | rfl | rfl | rfl | rfl | rfl | rfl | rfl | rfl | rfl | rfl | rfl | rfl | rfl | rfl | rfl | rfl : n = 1 ∨ n = 2 ∨ n = 3 ∨ n = 4 ∨ n = 5 ∨ n = 6 ∨ n = 7 ∨ n = 8 ∨ n = 9 ∨ n = 10 ∨ n = 11 ∨ n = 12 ∨ n = 13 ∨ n = 14 ∨ n = 15 ∨ n = 16 ∨ n = 17 ∨ n = 18 ∨ n = 19 ∨ n = 20 := by omega
                · exact ⟨.int .u64 ((IntKind.wrap .u64 (Int.ofNat i)).tmod 1), ⟨_, rfl⟩, by kernel_rfl⟩
                · exact ⟨.int .u64 ((IntKind.wrap .u64 (Int.ofNat i)).tmod 2), ⟨_, rfl⟩, by kernel_rfl⟩
                · exact ⟨.int .u64 ((IntKind.wrap .u64 (Int.ofNat i)).tmod 3), ⟨_, rfl⟩, by kernel_rfl⟩
                · exact ⟨.int .u64 ((IntKind.wrap .u64 (Int.ofNat i)).tmod 4), ⟨_, rfl⟩, by kernel_rfl⟩
                · exact ⟨.int .u64 ((IntKind.wrap .u64 (Int.ofNat i)).tmod 5), ⟨_, rfl⟩, by kernel_rfl⟩
                · exact ⟨.int .u64 ((IntKind.wrap .u64 (Int.ofNat i)).tmod 6), ⟨_, rfl⟩, by kernel_rfl⟩
                · exact ⟨.int .u64 ((IntKind.wrap .u64 (Int.ofNat i)).tmod 7), ⟨_, rfl⟩, by kernel_rfl⟩
                · exact ⟨.int .u64 ((IntKind.wrap .u64 (Int.ofNat i)).tmod 8), ⟨_, rfl⟩, by kernel_rfl⟩
                · exact ⟨.int .u64 ((IntKind.wrap .u64 (Int.ofNat i)).tmod 9), ⟨_, rfl⟩, by kernel_rfl⟩
                · exact ⟨.int .u64 ((IntKind.wrap .u64 (Int.ofNat i)).tmod 10), ⟨_, rfl⟩, by kernel_rfl⟩
                · exact ⟨.int .u64 ((IntKind.wrap .u64 (Int.ofNat i)).tmod 11), ⟨_, rfl⟩, by kernel_rfl⟩
                · exact ⟨.int .u64 ((IntKind.wrap .u64 (Int.ofNat i)).tmod 12), ⟨_, rfl⟩, by kernel_rfl⟩
                · exact ⟨.int .u64 ((IntKind.wrap .u64 (Int.ofNat i)).tmod 13), ⟨_, rfl⟩, by kernel_rfl⟩
                · exact ⟨.int .u64 ((IntKind.wrap .u64 (Int.ofNat i)).tmod 14), ⟨_, rfl⟩, by kernel_rfl⟩
                · exact ⟨.int .u64 ((IntKind.wrap .u64 (Int.ofNat i)).tmod 15), ⟨_, rfl⟩, by kernel_rfl⟩
                · exact ⟨.int .u64 ((IntKind.wrap .u64 (Int.ofNat i)).tmod 16), ⟨_, rfl⟩, by kernel_rfl⟩
                · exact ⟨.int .u64 ((IntKind.wrap .u64 (Int.ofNat i)).tmod 17), ⟨_, rfl⟩, by kernel_rfl⟩
                · exact ⟨.int .u64 ((IntKind.wrap .u64 (Int.ofNat i)).tmod 18), ⟨_, rfl⟩, by kernel_rfl⟩
                · exact ⟨.int .u64 ((IntKind.wrap .u64 (Int.ofNat i)).tmod 19), ⟨_, rfl⟩, by kernel_rfl⟩
                · exact ⟨.int .u64 ((IntKind.wrap .u64 (Int.ofNat i)).tmod 20), ⟨_, rfl⟩, by kernel_rfl⟩
              rintro _ ⟨y, rfl⟩
              refine ok_go 2 ?_
              exact sy_next 0 _ q26 (by kernel_rfl) (by kernel_rfl) (ih (k + 1, IntKind.wrap .i64 y, xa, xc, gI G') _ q26 ⟨hk2, XE.trans X26, hG', by show (gI G').length ≤ 202; rw [gI_len]; omega, fun r hr => by
                obtain ⟨s, hs, rfl⟩ := List.mem_map.1 hr
                obtain ⟨j, hj, rfl⟩ := List.getElem_of_mem hs
                rw [grow_get hj, List.length_map]
                have := row_short (grow G' j) 0 G'.length (hGr j).1 (fun t ht => ⟨Nat.zero_le _, (hGr j).2 t ht⟩) (Nat.zero_le _)
                omega⟩ (show 2 - (k + 1) < 2 - k by omega) ⟨by kernel_rfl, by kernel_rfl, by kernel_rfl, (by kernel_rfl : _ = Value.int .i64 (IntKind.wrap .i64 (Int.ofNat (k + 1)))).trans (by rw [hw]), trivial⟩)
            · intro _
              have XE : h.Ext q22 := (X0.trans X21).trans X22
              obtain ⟨_, q26, e26, X26, G', hG', hl1, hl2, hGr⟩ := s26 l 20 100000 (m + 1) (by decide) (by decide) (by decide) hll hrow (.slice a l.length c) q22 (hg.gr.ext XE)
              obtain ⟨xa, xc, hxs⟩ := hG'.shape
              subst hxs
              refine ok_go 0 ?_
              refine sy_call 0 (by kernel_rfl) e26 ?_
              refine ok_go 3 ?_
              refine sy_any 0 (p := fun v => ∃ y, v = .int .u64 y) (h' := q26) ?_ ?_
              · have hn : 1 ≤ (gI G').length ∧ (gI G').length ≤ 20 := by rw [gI_len]; exact ⟨hl1, hl2⟩
                clear hG' X26 e26
                generalize (gI G').length = n at *
                obtain rfl | rfl | rfl | rfl | rfl | rfl | rfl | rfl | rfl | rfl | rfl | rfl | rfl | rfl | rfl | rfl | rfl | rfl | rfl | rfl : n = 1 ∨ n = 2 ∨ n = 3 ∨ n = 4 ∨ n = 5 ∨ n = 6 ∨ n = 7 ∨ n = 8 ∨ n = 9 ∨ n = 10 ∨ n = 11 ∨ n = 12 ∨ n = 13 ∨ n = 14 ∨ n = 15 ∨ n = 16 ∨ n = 17 ∨ n = 18 ∨ n = 19 ∨ n = 20 := by omega
                · exact ⟨.int .u64 ((IntKind.wrap .u64 (Int.ofNat i)).tmod 1), ⟨_, rfl⟩, by kernel_rfl⟩
                · exact ⟨.int .u64 ((IntKind.wrap .u64 (Int.ofNat i)).tmod 2), ⟨_, rfl⟩, by kernel_rfl⟩
                · exact ⟨.int .u64 ((IntKind.wrap .u64 (Int.ofNat i)).tmod 3), ⟨_, rfl⟩, by kernel_rfl⟩
                · exact ⟨.int .u64 ((IntKind.wrap .u64 (Int.ofNat i)).tmod 4), ⟨_, rfl⟩, by kernel_rfl⟩
                · exact ⟨.int .u64 ((IntKind.wrap .u64 (Int.ofNat i)).tmod 5), ⟨_, rfl⟩, by kernel_rfl⟩
                · exact ⟨.int .u64 ((IntKind.wrap .u64 (Int.ofNat i)).tmod 6), ⟨_, rfl⟩, by kernel_rfl⟩
                · exact ⟨.int .u64 ((IntKind.wrap .u64 (Int.ofNat i)).tmod 7), ⟨_, rfl⟩, by kernel_rfl⟩
                · exact ⟨.int .u64 ((IntKind.wrap .u64 (Int.ofNat i)).tmod 8), ⟨_, rfl⟩, by kernel_rfl⟩
                · exact ⟨.int .u64 ((IntKind.wrap .u64 (Int.ofNat i)).tmod 9), ⟨_, rfl⟩, by kernel_rfl⟩
                · exact ⟨.int .u64 ((IntKind.wrap .u64 (Int.ofNat i)).tmod 10), ⟨_, rfl⟩, by kernel_rfl⟩
                · exact ⟨.int .u64 ((IntKind.wrap .u64 (Int.ofNat i)).tmod 11), ⟨_, rfl⟩, by kernel_rfl⟩
                · exact ⟨.int .u64 ((IntKind.wrap .u64 (Int.ofNat i)).tmod 12), ⟨_, rfl⟩, by kernel_rfl⟩
                · exact ⟨.int .u64 ((IntKind.wrap .u64 (Int.ofNat i)).tmod 13), ⟨_, rfl⟩, by kernel_rfl⟩
                · exact ⟨.int .u64 ((IntKind.wrap .u64 (Int.ofNat i)).tmod 14), ⟨_, rfl⟩, by kernel_rfl⟩
                · exact ⟨.int .u64 ((IntKind.wrap .u64 (Int.ofNat i)).tmod 15), ⟨_, rfl⟩, by kernel_rfl⟩
                · exact ⟨.int .u64 ((IntKind.wrap .u64 (Int.ofNat i)).tmod 16), ⟨_, rfl⟩, by kernel_rfl⟩
                · exact ⟨.int .u64 ((IntKind.wrap .u64 (Int.ofNat i)).tmod 17), ⟨_, rfl⟩, by kernel_rfl⟩
                · exact ⟨.int .u64 ((IntKind.wrap .u64 (Int.ofNat i)).tmod 18), ⟨_, rfl⟩, by kernel_rfl⟩
                · exact ⟨.int .u64 ((IntKind.wrap .u64 (Int.ofNat i)).tmod 19), ⟨_, rfl⟩, by kernel_rfl⟩
                · exact ⟨.int .u64 ((IntKind.wrap .u64 (Int.ofNat i)).tmod 20), ⟨_, rfl⟩, by kernel_rfl⟩
              rintro _ ⟨y, rfl⟩
              refine ok_go 2 ?_
              exact sy_next 0 _ q26 (by kernel_rfl) (by kernel_rfl) (ih (k + 1, IntKind.wrap .i64 y, xa, xc, gI G') _ q26 ⟨hk2, XE.trans X26, hG', by show (gI G').length ≤ 202; rw [gI_len]; omega, fun r hr => by
                obtain ⟨s, hs, rfl⟩ := List.mem_map.1 hr
                obtain ⟨j, hj, rfl⟩ := List.getElem_of_mem hs
                rw [grow_get hj, List.length_map]
                have := row_short (grow G' j) 0 G'.length (hGr j).1 (fun t ht => ⟨Nat.zero_le _, (hGr j).2 t ht⟩) (Nat.zero_le _)
                omega⟩ (show 2 - (k + 1) < 2 - k by omega) ⟨by kernel_rfl, by kernel_rfl, by kernel_rfl, (by kernel_rfl : _ = Value.int .i64 (IntKind.wrap .i64 (Int.ofNat (k + 1)))).trans (by rw [hw]), trivial⟩)
          | some t =>
            rw [hb] at e25
            dsimp only at e25
            refine ok_go 6 ?_
            refine sy_test 0 (decide (Int.ofNat (gI G).length ≤ 40)) (by kernel_rfl) ?_ ?_
            · intro _
              refine ok_go 0 ?_
              refine sy_call 0 (by kernel_rfl) e23 ?_
              refine ok_go 6 ?_
              refine sy_call 0 (by kernel_rfl) ea ?_
              refine ok_go 6 ?_
              refine sy_call 0 (by kernel_rfl) eb ?_
              refine ok_go 12 ?_
              refine sy_no 0 (b := decide (Int.ofNat i ≥ Int.ofNat (gI G).length)) (by kernel_rfl) (decide_eq_false (by have := hz.2; show ¬ ((gI G).length : Int) ≤ (i : Int); have h2 : (i : Int) < ((gI G).length : Int) := hz.2; omega)) ?_
              refine ok_go 0 ?_
              refine sy_call 0 (by kernel_rfl) e25 ?_
              refine ok_go 10 ?_
              refine sy_no 0 (b := Int.ofNat t != Int.ofNat t) (by kernel_rfl) (bne_self_eq_false _) ?_
              refine ok_go 0 ?_
              have XE : h.Ext q25 := (((X0.trans X21).trans X22).trans X23).trans X25
              obtain ⟨_, q26, e26, X26, G', hG', hl1, hl2, hGr⟩ := s26 l 20 100000 (m + 1) (by decide) (by decide) (by decide) hll hrow (.slice a l.length c) q25 (hg.gr.ext XE)
              obtain ⟨xa, xc, hxs⟩ := hG'.shape
              subst hxs
              refine ok_go 0 ?_
              refine sy_call 0 (by kernel_rfl) e26 ?_
              refine ok_go 3 ?_
              refine sy_any 0 (p := fun v => ∃ y, v = .int .u64 y) (h' := q26) ?_ ?_
              · have hn : 1 ≤ (gI G').length ∧ (gI G').length ≤ 20 := by rw [gI_len]; exact ⟨hl1, hl2⟩
                clear hG' X26 e26
                generalize (gI G').length = n at *
                obtain rfl | rfl | rfl | rfl | rfl | rfl | rfl | rfl | rfl | rfl | rfl | rfl | rfl | rfl | rfl | rfl | rfl | rfl | rfl | rfl : n = 1 ∨ n = 2 ∨ n = 3 ∨ n = 4 ∨ n = 5 ∨ n = 6 ∨ n = 7 ∨ n = 8 ∨ n = 9 ∨ n = 10 ∨ n = 11 ∨ n = 12 ∨ n = 13 ∨ n = 14 ∨ n = 15 ∨ n = 16 ∨ n = 17 ∨ n = 18 ∨ n = 19 ∨ n = 20 := by omega
                · exact ⟨.int .u64 ((IntKind.wrap .u64 (Int.ofNat i)).tmod 1), ⟨_, rfl⟩, by kernel_rfl⟩
                · exact ⟨.int .u64 ((IntKind.wrap .u64 (Int.ofNat i)).tmod 2), ⟨_, rfl⟩, by kernel_rfl⟩
                · exact ⟨.int .u64 ((IntKind.wrap .u64 (Int.ofNat i)).tmod 3), ⟨_, rfl⟩, by kernel_rfl⟩
                · exact ⟨.int .u64 ((IntKind.wrap .u64 (Int.ofNat i)).tmod 4), ⟨_, rfl⟩, by kernel_rfl⟩
                · exact ⟨.int .u64 ((IntKind.wrap .u64 (Int.ofNat i)).tmod 5), ⟨_, rfl⟩, by kernel_rfl⟩
                · exact ⟨.int .u64 ((IntKind.wrap .u64 (Int.ofNat i)).tmod 6), ⟨_, rfl⟩, by kernel_rfl⟩
                · exact ⟨.int .u64 ((IntKind.wrap .u64 (Int.ofNat i)).tmod 7), ⟨_, rfl⟩, by kernel_rfl⟩
                · exact ⟨.int .u64 ((IntKind.wrap .u64 (Int.ofNat i)).tmod 8), ⟨_, rfl⟩, by kernel_rfl⟩
                · exact ⟨.int .u64 ((IntKind.wrap .u64 (Int.ofNat i)).tmod 9), ⟨_, rfl⟩, by kernel_rfl⟩
                · exact ⟨.int .u64 ((IntKind.wrap .u64 (Int.ofNat i)).tmod 10), ⟨_, rfl⟩, by kernel_rfl⟩
                · exact ⟨.int .u64 ((IntKind.wrap .u64 (Int.ofNat i)).tmod 11), ⟨_, rfl⟩, by kernel_rfl⟩
                · exact ⟨.int .u64 ((IntKind.wrap .u64 (Int.ofNat i)).tmod 12), ⟨_, rfl⟩, by kernel_rfl⟩
                · exact ⟨.int .u64 ((IntKind.wrap .u64 (Int.ofNat i)).tmod 13), ⟨_, rfl⟩, by kernel_rfl⟩
                · exact ⟨.int .u64 ((IntKind.wrap .u64 (Int.ofNat i)).tmod 14), ⟨_, rfl⟩, by kernel_rfl⟩
                · exact ⟨.int .u64 ((IntKind.wrap .u64 (Int.ofNat i)).tmod 15), ⟨_, rfl⟩, by kernel_rfl⟩
                · exact ⟨.int .u64 ((IntKind.wrap .u64 (Int.ofNat i)).tmod 16), ⟨_, rfl⟩, by kernel_rfl⟩
                · exact ⟨.int .u64 ((IntKind.wrap .u64 (Int.ofNat i)).tmod 17), ⟨_, rfl⟩, by kernel_rfl⟩
                · exact ⟨.int .u64 ((IntKind.wrap .u64 (Int.ofNat i)).tmod 18), ⟨_, rfl⟩, by kernel_rfl⟩
                · exact ⟨.int .u64 ((IntKind.wrap .u64 (Int.ofNat i)).tmod 19), ⟨_, rfl⟩, by kernel_rfl⟩
                · exact ⟨.int .u64 ((IntKind.wrap .u64 (Int.ofNat i)).tmod 20), ⟨_, rfl⟩, by kernel_rfl⟩
              rintro _ ⟨y, rfl⟩
              refine ok_go 2 ?_
              exact sy_next 0 _ q26 (by kernel_rfl) (by kernel_rfl) (ih (k + 1, IntKind.wrap .i64 y, xa, xc, gI G') _ q26 ⟨hk2, XE.trans X26, hG', by show (gI G').length ≤ 202; rw [gI_len]; omega, fun r hr => by
                obtain ⟨s, hs, rfl⟩ := List.mem_map.1 hr
                obtain ⟨j, hj, rfl⟩ := List.getElem_of_mem hs
                rw [grow_get hj, List.length_map]
                have := row_short (grow G' j) 0 G'.length (hGr j).1 (fun t ht => ⟨Nat.zero_le _, (hGr j).2 t ht⟩) (Nat.zero_le _)
                omega⟩ (show 2 - (k + 1) < 2 - k by omega) ⟨by kernel_rfl, by kernel_rfl, by kernel_rfl, (by kernel_rfl : _ = Value.int .i64 (IntKind.wrap .i64 (Int.ofNat (k + 1)))).trans (by rw [hw]), trivial⟩)
            · intro _
              have XE : h.Ext q22 := (X0.trans X21).trans X22
              obtain ⟨_, q26, e26, X26, G', hG', hl1, hl2, hGr⟩ := s26 l 20 100000 (m + 1) (by decide) (by decide) (by decide) hll hrow (.slice a l.length c) q22 (hg.gr.ext XE)
              obtain ⟨xa, xc, hxs⟩ := hG'.shape
              subst hxs
              refine ok_go 0 ?_
              refine sy_call 0 (by kernel_rfl) e26 ?_
              refine ok_go 3 ?_
              refine sy_any 0 (p := fun v => ∃ y, v = .int .u64 y) (h' := q26) ?_ ?_
              · have hn : 1 ≤ (gI G').length ∧ (gI G').length ≤ 20 := by rw [gI_len]; exact ⟨hl1, hl2⟩
                clear hG' X26 e26
                generalize (gI G').length = n at *
                obtain rfl | rfl | rfl | rfl | rfl | rfl | rfl | rfl | rfl | rfl | rfl | rfl | rfl | rfl | rfl | rfl | rfl | rfl | rfl | rfl : n = 1 ∨ n = 2 ∨ n = 3 ∨ n = 4 ∨ n = 5 ∨ n = 6 ∨ n = 7 ∨ n = 8 ∨ n = 9 ∨ n = 10 ∨ n = 11 ∨ n = 12 ∨ n = 13 ∨ n = 14 ∨ n = 15 ∨ n = 16 ∨ n = 17 ∨ n = 18 ∨ n = 19 ∨ n = 20 := by omega
                · exact ⟨.int .u64 ((IntKind.wrap .u64 (Int.ofNat i)).tmod 1), ⟨_, rfl⟩, by kernel_rfl⟩
                · exact ⟨.int .u64 ((IntKind.wrap .u64 (Int.ofNat i)).tmod 2), ⟨_, rfl⟩, by kernel_rfl⟩
                · exact ⟨.int .u64 ((IntKind.wrap .u64 (Int.ofNat i)).tmod 3), ⟨_, rfl⟩, by kernel_rfl⟩
                · exact ⟨.int .u64 ((IntKind.wrap .u64 (Int.ofNat i)).tmod 4), ⟨_, rfl⟩, by kernel_rfl⟩
                · exact ⟨.int .u64 ((IntKind.wrap .u64 (Int.ofNat i)).tmod 5), ⟨_, rfl⟩, by kernel_rfl⟩
                · exact ⟨.int .u64 ((IntKind.wrap .u64 (Int.ofNat i)).tmod 6), ⟨_, rfl⟩, by kernel_rfl⟩
                · exact ⟨.int .u64 ((IntKind.wrap .u64 (Int.ofNat i)).tmod 7), ⟨_, rfl⟩, by kernel_rfl⟩
                · exact ⟨.int .u64 ((IntKind.wrap .u64 (Int.ofNat i)).tmod 8), ⟨_, rfl⟩, by kernel_rfl⟩
                · exact ⟨.int .u64 ((IntKind.wrap .u64 (Int.ofNat i)).tmod 9), ⟨_, rfl⟩, by kernel_rfl⟩
                · exact ⟨.int .u64 ((IntKind.wrap .u64 (Int.ofNat i)).tmod 10), ⟨_, rfl⟩, by kernel_rfl⟩
                · exact ⟨.int .u64 ((IntKind.wrap .u64 (Int.ofNat i)).tmod 11), ⟨_, rfl⟩, by kernel_rfl⟩
                · exact ⟨.int .u64 ((IntKind.wrap .u64 (Int.ofNat i)).tmod 12), ⟨_, rfl⟩, by kernel_rfl⟩
                · exact ⟨.int .u64 ((IntKind.wrap .u64 (Int.ofNat i)).tmod 13), ⟨_, rfl⟩, by kernel_rfl⟩
                · exact ⟨.int .u64 ((IntKind.wrap .u64 (Int.ofNat i)).tmod 14), ⟨_, rfl⟩, by kernel_rfl⟩
                · exact ⟨.int .u64 ((IntKind.wrap .u64 (Int.ofNat i)).tmod 15), ⟨_, rfl⟩, by kernel_rfl⟩
                · exact ⟨.int .u64 ((IntKind.wrap .u64 (Int.ofNat i)).tmod 16), ⟨_, rfl⟩, by kernel_rfl⟩
                · exact ⟨.int .u64 ((IntKind.wrap .u64 (Int.ofNat i)).tmod 17), ⟨_, rfl⟩, by kernel_rfl⟩
                · exact ⟨.int .u64 ((IntKind.wrap .u64 (Int.ofNat i)).tmod 18), ⟨_, rfl⟩, by kernel_rfl⟩
                · exact ⟨.int .u64 ((IntKind.wrap .u64 (Int.ofNat i)).tmod 19), ⟨_, rfl⟩, by kernel_rfl⟩
                · exact ⟨.int .u64 ((IntKind.wrap .u64 (Int.ofNat i)).tmod 20), ⟨_, rfl⟩, by kernel_rfl⟩
              rintro _ ⟨y, rfl⟩
              refine ok_go 2 ?_
              exact sy_next 0 _ q26 (by kernel_rfl) (by kernel_rfl) (ih (k + 1, IntKind.wrap .i64 y, xa, xc, gI G') _ q26 ⟨hk2, XE.trans X26, hG', by show (gI G').length ≤ 202; rw [gI_len]; omega, fun r hr => by
                obtain ⟨s, hs, rfl⟩ := List.mem_map.1 hr
                obtain ⟨j, hj, rfl⟩ := List.getElem_of_mem hs
                rw [grow_get hj, List.length_map]
                have := row_short (grow G' j) 0 G'.length (hGr j).1 (fun t ht => ⟨Nat.zero_le _, (hGr j).2 t ht⟩) (Nat.zero_le _)
                omega⟩ (show 2 - (k + 1) < 2 - k by omega) ⟨by kernel_rfl, by kernel_rfl, by kernel_rfl, (by kernel_rfl : _ = Value.int .i64 (IntKind.wrap .i64 (Int.ofNat (k + 1)))).trans (by rw [hw]), trivial⟩)
        · have e22 := s22_arg (gI G).length 100000 (m + 1) sa sc z hz q21 (chk0 hGd m _ _ GR1)
          refine sy_call 0 (by kernel_rfl) e22 ?_
          obtain ⟨_, q23, e23, kc, kd, rfl, X23, hkc, hkd⟩ := s23 G 100000 (m + 1) hGd.l1 hGd.l2 (by decide) (fun i t ht => (hGd.r i).2 t ht) hGd.len _ _ GR1
          obtain ⟨ca, cc, hcs⟩ := hkc.shape
          obtain ⟨da, dc, hds⟩ := hkd.shape
          rw [cellsF_len] at hcs hds
          subst hcs hds
          rw [kF_list] at hka hkc
          rw [dF_list] at hkb hkd
          have ea := s24 _ 100000 (m + 1) (by rw [List.length_map, List.length_range]; have := hGd.l2; omega) (by decide) _ _ _ (hka.ext X23) hkc
          have eb := s24 _ 100000 (m + 1) (by rw [List.length_map, List.length_range]; have := hGd.l2; omega) (by decide) _ _ _ (hkb.ext X23) hkd
          refine ok_go 6 ?_
          refine sy_test 0 (decide (Int.ofNat (gI G).length ≤ 40)) (by kernel_rfl) ?_ ?_
          · intro _
            refine ok_go 0 ?_
            refine sy_call 0 (by kernel_rfl) e23 ?_
            refine ok_go 6 ?_
            refine sy_call 0 (by kernel_rfl) ea ?_
            refine ok_go 6 ?_
            refine sy_call 0 (by kernel_rfl) eb ?_
            refine ok_go 5 ?_
            by_cases h0 : z < 0
            · refine sy_yes 0 (b := decide (z < 0)) (by kernel_rfl) (decide_eq_true h0) ?_
              refine ok_go 11 ?_
              have XE : h.Ext q23 := (X0.trans X21).trans X23
              obtain ⟨_, q26, e26, X26, G', hG', hl1, hl2, hGr⟩ := s26 l 20 100000 (m + 1) (by decide) (by decide) (by decide) hll hrow (.slice a l.length c) q23 (hg.gr.ext XE)
              obtain ⟨xa, xc, hxs⟩ := hG'.shape
              subst hxs
              refine ok_go 0 ?_
              refine sy_call 0 (by kernel_rfl) e26 ?_
              refine ok_go 3 ?_
              refine sy_any 0 (p := fun v => ∃ y, v = .int .u64 y) (h' := q26) ?_ ?_
              · have hn : 1 ≤ (gI G').length ∧ (gI G').length ≤ 20 := by rw [gI_len]; exact ⟨hl1, hl2⟩
                clear hG' X26 e26
                generalize (gI G').length = n at *
                obtain rfl | rfl | rfl | rfl | rfl | rfl | rfl | rfl | rfl | rfl | rfl | rfl | rfl | rfl | rfl | rfl | rfl | rfl | rfl | rfl : n = 1 ∨ n = 2 ∨ n = 3 ∨ n = 4 ∨ n = 5 ∨ n = 6 ∨ n = 7 ∨ n = 8 ∨ n = 9 ∨ n = 10 ∨ n = 11 ∨ n = 12 ∨ n = 13 ∨ n = 14 ∨ n = 15 ∨ n = 16 ∨ n = 17 ∨ n = 18 ∨ n = 19 ∨ n = 20 := by omega
                · exact ⟨.int .u64 ((IntKind.wrap .u64 (z)).tmod 1), ⟨_, rfl⟩, by kernel_rfl⟩
                · exact ⟨.int .u64 ((IntKind.wrap .u64 (z)).tmod 2), ⟨_, rfl⟩, by kernel_rfl⟩
                · exact ⟨.int .u64 ((IntKind.wrap .u64 (z)).tmod 3), ⟨_, rfl⟩, by kernel_rfl⟩
                · exact ⟨.int .u64 ((IntKind.wrap .u64 (z)).tmod 4), ⟨_, rfl⟩, by kernel_rfl⟩
                · exact ⟨.int .u64 ((IntKind.wrap .u64 (z)).tmod 5), ⟨_, rfl⟩, by kernel_rfl⟩
                · exact ⟨.int .u64 ((IntKind.wrap .u64 (z)).tmod 6), ⟨_, rfl⟩, by kernel_rfl⟩
                · exact ⟨.int .u64 ((IntKind.wrap .u64 (z)).tmod 7), ⟨_, rfl⟩, by kernel_rfl⟩
                · exact ⟨.int .u64 ((IntKind.wrap .u64 (z)).tmod 8), ⟨_, rfl⟩, by kernel_rfl⟩
                · exact ⟨.int .u64 ((IntKind.wrap .u64 (z)).tmod 9), ⟨_, rfl⟩, by kernel_rfl⟩
                · exact ⟨.int .u64 ((IntKind.wrap .u64 (z)).tmod 10), ⟨_, rfl⟩, by kernel_rfl⟩
                · exact ⟨.int .u64 ((IntKind.wrap .u64 (z)).tmod 11), ⟨_, rfl⟩, by kernel_rfl⟩
                · exact ⟨.int .u64 ((IntKind.wrap .u64 (z)).tmod 12), ⟨_, rfl⟩, by kernel_rfl⟩
                · exact ⟨.int .u64 ((IntKind.wrap .u64 (z)).tmod 13), ⟨_, rfl⟩, by kernel_rfl⟩
                · exact ⟨.int .u64 ((IntKind.wrap .u64 (z)).tmod 14), ⟨_, rfl⟩, by kernel_rfl⟩
                · exact ⟨.int .u64 ((IntKind.wrap .u64 (z)).tmod 15), ⟨_, rfl⟩, by kernel_rfl⟩
                · exact ⟨.int .u64 ((IntKind.wrap .u64 (z)).tmod 16), ⟨_, rfl⟩, by kernel_rfl⟩
                · exact ⟨.int .u64 ((IntKind.wrap .u64 (z)).tmod 17), ⟨_, rfl⟩, by kernel_rfl⟩
                · exact ⟨.int .u64 ((IntKind.wrap .u64 (z)).tmod 18), ⟨_, rfl⟩, by kernel_rfl⟩
                · exact ⟨.int .u64 ((IntKind.wrap .u64 (z)).tmod 19), ⟨_, rfl⟩, by kernel_rfl⟩
                · exact ⟨.int .u64 ((IntKind.wrap .u64 (z)).tmod 20), ⟨_, rfl⟩, by kernel_rfl⟩
              rintro _ ⟨y, rfl⟩
              refine ok_go 2 ?_
              exact sy_next 0 _ q26 (by kernel_rfl) (by kernel_rfl) (ih (k + 1, IntKind.wrap .i64 y, xa, xc, gI G') _ q26 ⟨hk2, XE.trans X26, hG', by show (gI G').length ≤ 202; rw [gI_len]; omega, fun r hr => by
                obtain ⟨s, hs, rfl⟩ := List.mem_map.1 hr
                obtain ⟨j, hj, rfl⟩ := List.getElem_of_mem hs
                rw [grow_get hj, List.length_map]
                have := row_short (grow G' j) 0 G'.length (hGr j).1 (fun t ht => ⟨Nat.zero_le _, (hGr j).2 t ht⟩) (Nat.zero_le _)
                omega⟩ (show 2 - (k + 1) < 2 - k by omega) ⟨by kernel_rfl, by kernel_rfl, by kernel_rfl, (by kernel_rfl : _ = Value.int .i64 (IntKind.wrap .i64 (Int.ofNat (k + 1)))).trans (by rw [hw]), trivial⟩)
            · refine sy_no 0 (b := decide (z < 0)) (by kernel_rfl) (decide_eq_false h0) ?_
              refine ok_go 6 ?_
              refine sy_yes 0 (b := decide (z ≥ Int.ofNat (gI G).length)) (by kernel_rfl) (decide_eq_true (by show ((gI G).length : Int) ≤ z; omega)) ?_
              refine ok_go 6 ?_
              have XE : h.Ext q23 := (X0.trans X21).trans X23
              obtain ⟨_, q26, e26, X26, G', hG', hl1, hl2, hGr⟩ := s26 l 20 100000 (m + 1) (by decide) (by decide) (by decide) hll hrow (.slice a l.length c) q23 (hg.gr.ext XE)
              obtain ⟨xa, xc, hxs⟩ := hG'.shape
              subst hxs
              refine ok_go 0 ?_
              refine sy_call 0 (by kernel_rfl) e26 ?_
              refine ok_go 3 ?_
              refine sy_any 0 (p := fun v => ∃ y, v = .int .u64 y) (h' := q26) ?_ ?_
              · have hn : 1 ≤ (gI G').length ∧ (gI G').length ≤ 20 := by rw [gI_len]; exact ⟨hl1, hl2⟩
                clear hG' X26 e26
                generalize (gI G').length = n at *
                obtain rfl | rfl | rfl | rfl | rfl | rfl | rfl | rfl | rfl | rfl | rfl | rfl | rfl | rfl | rfl | rfl | rfl | rfl | rfl | rfl : n = 1 ∨ n = 2 ∨ n = 3 ∨ n = 4 ∨ n = 5 ∨ n = 6 ∨ n = 7 ∨ n = 8 ∨ n = 9 ∨ n = 10 ∨ n = 11 ∨ n = 12 ∨ n = 13 ∨ n = 14 ∨ n = 15 ∨ n = 16 ∨ n = 17 ∨ n = 18 ∨ n = 19 ∨ n = 20 := by omega
                · exact ⟨.int .u64 ((IntKind.wrap .u64 (z)).tmod 1), ⟨_, rfl⟩, by kernel_rfl⟩
                · exact ⟨.int .u64 ((IntKind.wrap .u64 (z)).tmod 2), ⟨_, rfl⟩, by kernel_rfl⟩
                · exact ⟨.int .u64 ((IntKind.wrap .u64 (z)).tmod 3), ⟨_, rfl⟩, by kernel_rfl⟩
                · exact ⟨.int .u64 ((IntKind.wrap .u64 (z)).tmod 4), ⟨_, rfl⟩, by kernel_rfl⟩
                · exact ⟨.int .u64 ((IntKind.wrap .u64 (z)).tmod 5), ⟨_, rfl⟩, by kernel_rfl⟩
                · exact ⟨.int .u64 ((IntKind.wrap .u64 (z)).tmod 6), ⟨_, rfl⟩, by kernel_rfl⟩
                · exact ⟨.int .u64 ((IntKind.wrap .u64 (z)).tmod 7), ⟨_, rfl⟩, by kernel_rfl⟩
                · exact ⟨.int .u64 ((IntKind.wrap .u64 (z)).tmod 8), ⟨_, rfl⟩, by kernel_rfl⟩
                · exact ⟨.int .u64 ((IntKind.wrap .u64 (z)).tmod 9), ⟨_, rfl⟩, by kernel_rfl⟩
                · exact ⟨.int .u64 ((IntKind.wrap .u64 (z)).tmod 10), ⟨_, rfl⟩, by kernel_rfl⟩
                · exact ⟨.int .u64 ((IntKind.wrap .u64 (z)).tmod 11), ⟨_, rfl⟩, by kernel_rfl⟩
                · exact ⟨.int .u64 ((IntKind.wrap .u64 (z)).tmod 12), ⟨_, rfl⟩, by kernel_rfl⟩
                · exact ⟨.int .u64 ((IntKind.wrap .u64 (z)).tmod 13), ⟨_, rfl⟩, by kernel_rfl⟩
                · exact ⟨.int .u64 ((IntKind.wrap .u64 (z)).tmod 14), ⟨_, rfl⟩, by kernel_rfl⟩
                · exact ⟨.int .u64 ((IntKind.wrap .u64 (z)).tmod 15), ⟨_, rfl⟩, by kernel_rfl⟩
                · exact ⟨.int .u64 ((IntKind.wrap .u64 (z)).tmod 16), ⟨_, rfl⟩, by kernel_rfl⟩
                · exact ⟨.int .u64 ((IntKind.wrap .u64 (z)).tmod 17), ⟨_, rfl⟩, by kernel_rfl⟩
                · exact ⟨.int .u64 ((IntKind.wrap .u64 (z)).tmod 18), ⟨_, rfl⟩, by kernel_rfl⟩
                · exact ⟨.int .u64 ((IntKind.wrap .u64 (z)).tmod 19), ⟨_, rfl⟩, by kernel_rfl⟩
                · exact ⟨.int .u64 ((IntKind.wrap .u64 (z)).tmod 20), ⟨_, rfl⟩, by kernel_rfl⟩
              rintro _ ⟨y, rfl⟩
              refine ok_go 2 ?_
              exact sy_next 0 _ q26 (by kernel_rfl) (by kernel_rfl) (ih (k + 1, IntKind.wrap .i64 y, xa, xc, gI G') _ q26 ⟨hk2, XE.trans X26, hG', by show (gI G').length ≤ 202; rw [gI_len]; omega, fun r hr => by
                obtain ⟨s, hs, rfl⟩ := List.mem_map.1 hr
                obtain ⟨j, hj, rfl⟩ := List.getElem_of_mem hs
                rw [grow_get hj, List.length_map]
                have := row_short (grow G' j) 0 G'.length (hGr j).1 (fun t ht => ⟨Nat.zero_le _, (hGr j).2 t ht⟩) (Nat.zero_le _)
                omega⟩ (show 2 - (k + 1) < 2 - k by omega) ⟨by kernel_rfl, by kernel_rfl, by kernel_rfl, (by kernel_rfl : _ = Value.int .i64 (IntKind.wrap .i64 (Int.ofNat (k + 1)))).trans (by rw [hw]), trivial⟩)
          · intro _
            have XE : h.Ext q21 := X0.trans X21
            obtain ⟨_, q26, e26, X26, G', hG', hl1, hl2, hGr⟩ := s26 l 20 100000 (m + 1) (by decide) (by decide) (by decide) hll hrow (.slice a l.length c) q21 (hg.gr.ext XE)
            obtain ⟨xa, xc, hxs⟩ := hG'.shape
            subst hxs
            refine ok_go 0 ?_
            refine sy_call 0 (by kernel_rfl) e26 ?_
            refine ok_go 3 ?_
            refine sy_any 0 (p := fun v => ∃ y, v = .int .u64 y) (h' := q26) ?_ ?_
            · have hn : 1 ≤ (gI G').length ∧ (gI G').length ≤ 20 := by rw [gI_len]; exact ⟨hl1, hl2⟩
              clear hG' X26 e26
              generalize (gI G').length = n at *
              obtain rfl | rfl | rfl | rfl | rfl | rfl | rfl | rfl | rfl | rfl | rfl | rfl | rfl | rfl | rfl | rfl | rfl | rfl | rfl | rfl : n = 1 ∨ n = 2 ∨ n = 3 ∨ n = 4 ∨ n = 5 ∨ n = 6 ∨ n = 7 ∨ n = 8 ∨ n = 9 ∨ n = 10 ∨ n = 11 ∨ n = 12 ∨ n = 13 ∨ n = 14 ∨ n = 15 ∨ n = 16 ∨ n = 17 ∨ n = 18 ∨ n = 19 ∨ n = 20 := by omega
              · exact ⟨.int .u64 ((IntKind.wrap .u64 (z)).tmod 1), ⟨_, rfl⟩, by kernel_rfl⟩
              · exact ⟨.int .u64 ((IntKind.wrap .u64 (z)).tmod 2), ⟨_, rfl⟩, by kernel_rfl⟩
              · exact ⟨.int .u64 ((IntKind.wrap .u64 (z)).tmod 3), ⟨_, rfl⟩, by kernel_rfl⟩
              · exact ⟨.int .u64 ((IntKind.wrap .u64 (z)).tmod 4), ⟨_, rfl⟩, by kernel_rfl⟩
              · exact ⟨.int .u64 ((IntKind.wrap .u64 (z)).tmod 5), ⟨_, rfl⟩, by kernel_rfl⟩
              · exact ⟨.int .u64 ((IntKind.wrap .u64 (z)).tmod 6), ⟨_, rfl⟩, by kernel_rfl⟩
              · exact ⟨.int .u64 ((IntKind.wrap .u64 (z)).tmod 7), ⟨_, rfl⟩, by kernel_rfl⟩
              · exact ⟨.int .u64 ((IntKind.wrap .u64 (z)).tmod 8), ⟨_, rfl⟩, by kernel_rfl⟩
              · exact ⟨.int .u64 ((IntKind.wrap .u64 (z)).tmod 9), ⟨_, rfl⟩, by kernel_rfl⟩
              · exact ⟨.int .u64 ((IntKind.wrap .u64 (z)).tmod 10), ⟨_, rfl⟩, by kernel_rfl⟩
              · exact ⟨.int .u64 ((IntKind.wrap .u64 (z)).tmod 11), ⟨_, rfl⟩, by kernel_rfl⟩
              · exact ⟨.int .u64 ((IntKind.wrap .u64 (z)).tmod 12), ⟨_, rfl⟩, by kernel_rfl⟩
              · exact ⟨.int .u64 ((IntKind.wrap .u64 (z)).tmod 13), ⟨_, rfl⟩, by kernel_rfl⟩
              · exact ⟨.int .u64 ((IntKind.wrap .u64 (z)).tmod 14), ⟨_, rfl⟩, by kernel_rfl⟩
              · exact ⟨.int .u64 ((IntKind.wrap .u64 (z)).tmod 15), ⟨_, rfl⟩, by kernel_rfl⟩
              · exact ⟨.int .u64 ((IntKind.wrap .u64 (z)).tmod 16), ⟨_, rfl⟩, by kernel_rfl⟩
              · exact ⟨.int .u64 ((IntKind.wrap .u64 (z)).tmod 17), ⟨_, rfl⟩, by kernel_rfl⟩
              · exact ⟨.int .u64 ((IntKind.wrap .u64 (z)).tmod 18), ⟨_, rfl⟩, by kernel_rfl⟩
              · exact ⟨.int .u64 ((IntKind.wrap .u64 (z)).tmod 19), ⟨_, rfl⟩, by kernel_rfl⟩
              · exact ⟨.int .u64 ((IntKind.wrap .u64 (z)).tmod 20), ⟨_, rfl⟩, by kernel_rfl⟩
            rintro _ ⟨y, rfl⟩
            refine ok_go 2 ?_
            exact sy_next 0 _ q26 (by kernel_rfl) (by kernel_rfl) (ih (k + 1, IntKind.wrap .i64 y, xa, xc, gI G') _ q26 ⟨hk2, XE.trans X26, hG', by show (gI G').length ≤ 202; rw [gI_len]; omega, fun r hr => by
              obtain ⟨s, hs, rfl⟩ := List.mem_map.1 hr
              obtain ⟨j, hj, rfl⟩ := List.getElem_of_mem hs
              rw [grow_get hj, List.length_map]
              have := row_short (grow G' j) 0 G'.length (hGr j).1 (fun t ht => ⟨Nat.zero_le _, (hGr j).2 t ht⟩) (Nat.zero_le _)
              omega⟩ (show 2 - (k + 1) < 2 - k by omega) ⟨by kernel_rfl, by kernel_rfl, by kernel_rfl, (by kernel_rfl : _ = Value.int .i64 (IntKind.wrap .i64 (Int.ofNat (k + 1)))).trans (by rw [hw]), trivial⟩)
      · rcases h19 with ⟨_, h⟩ | ⟨rfl, _⟩
        · exact absurd h ok
        rcases h20 with ⟨_, h⟩ | ⟨rfl, _⟩
        · exact absurd h ok
        obtain ⟨_, g20, d20, hg20, h20⟩ := s20 gl 100000 m (by omega) (fun r hr => by have := hgr r hr; omega) _ _ GRg (by decide)
        rw [hg20] at d20
        clear hg20 g20
        rcases h20 with ⟨_, h⟩ | ⟨rfl, _⟩
        · exact absurd h ok
        have e21 := s21_bad 100000 (m + 1) _ _ d20
        have e22 := s22_bad 100000 (m + 1) _ z _ d20
        refine ok_go 0 ?_
        refine sy_call 0 (by kernel_rfl) e19 ?_
        refine ok_go 0 ?_
        refine sy_call 0 (by kernel_rfl) e20 ?_
        refine ok_go 2 ?_
        refine sy_call 0 (by kernel_rfl) e21 ?_
        refine ok_go 3 ?_
        refine sy_call 0 (by kernel_rfl) e22 ?_
        have XE : h.Ext g := X0
        obtain ⟨_, q26, e26, X26, G', hG', hl1, hl2, hGr⟩ := s26 l 20 100000 (m + 1) (by decide) (by decide) (by decide) hll hrow (.slice a l.length c) g (hg.gr.ext XE)
        obtain ⟨xa, xc, hxs⟩ := hG'.shape
        subst hxs
        refine ok_go 26 ?_
        refine sy_call 0 (by kernel_rfl) e26 ?_
        refine ok_go 3 ?_
        refine sy_any 0 (p := fun v => ∃ y, v = .int .u64 y) (h' := q26) ?_ ?_
        · have hn : 1 ≤ (gI G').length ∧ (gI G').length ≤ 20 := by rw [gI_len]; exact ⟨hl1, hl2⟩
          clear hG' X26 e26
          generalize (gI G').length = n at *
          obtain rfl | rfl | rfl | rfl | rfl | rfl | rfl | rfl | rfl | rfl | rfl | rfl | rfl | rfl | rfl | rfl | rfl | rfl | rfl | rfl : n = 1 ∨ n = 2 ∨ n = 3 ∨ n = 4 ∨ n = 5 ∨ n = 6 ∨ n = 7 ∨ n = 8 ∨ n = 9 ∨ n = 10 ∨ n = 11 ∨ n = 12 ∨ n = 13 ∨ n = 14 ∨ n = 15 ∨ n = 16 ∨ n = 17 ∨ n = 18 ∨ n = 19 ∨ n = 20 := by omega
          · exact ⟨.int .u64 ((IntKind.wrap .u64 (z)).tmod 1), ⟨_, rfl⟩, by kernel_rfl⟩
          · exact ⟨.int .u64 ((IntKind.wrap .u64 (z)).tmod 2), ⟨_, rfl⟩, by kernel_rfl⟩
          · exact ⟨.int .u64 ((IntKind.wrap .u64 (z)).tmod 3), ⟨_, rfl⟩, by kernel_rfl⟩
          · exact ⟨.int .u64 ((IntKind.wrap .u64 (z)).tmod 4), ⟨_, rfl⟩, by kernel_rfl⟩
          · exact ⟨.int .u64 ((IntKind.wrap .u64 (z)).tmod 5), ⟨_, rfl⟩, by kernel_rfl⟩
          · exact ⟨.int .u64 ((IntKind.wrap .u64 (z)).tmod 6), ⟨_, rfl⟩, by kernel_rfl⟩
          · exact ⟨.int .u64 ((IntKind.wrap .u64 (z)).tmod 7), ⟨_, rfl⟩, by kernel_rfl⟩
          · exact ⟨.int .u64 ((IntKind.wrap .u64 (z)).tmod 8), ⟨_, rfl⟩, by kernel_rfl⟩
          · exact ⟨.int .u64 ((IntKind.wrap .u64 (z)).tmod 9), ⟨_, rfl⟩, by kernel_rfl⟩
          · exact ⟨.int .u64 ((IntKind.wrap .u64 (z)).tmod 10), ⟨_, rfl⟩, by kernel_rfl⟩
          · exact ⟨.int .u64 ((IntKind.wrap .u64 (z)).tmod 11), ⟨_, rfl⟩, by kernel_rfl⟩
          · exact ⟨.int .u64 ((IntKind.wrap .u64 (z)).tmod 12), ⟨_, rfl⟩, by kernel_rfl⟩
          · exact ⟨.int .u64 ((IntKind.wrap .u64 (z)).tmod 13), ⟨_, rfl⟩, by kernel_rfl⟩
          · exact ⟨.int .u64 ((IntKind.wrap .u64 (z)).tmod 14), ⟨_, rfl⟩, by kernel_rfl⟩
          · exact ⟨.int .u64 ((IntKind.wrap .u64 (z)).tmod 15), ⟨_, rfl⟩, by kernel_rfl⟩
          · exact ⟨.int .u64 ((IntKind.wrap .u64 (z)).tmod 16), ⟨_, rfl⟩, by kernel_rfl⟩
          · exact ⟨.int .u64 ((IntKind.wrap .u64 (z)).tmod 17), ⟨_, rfl⟩, by kernel_rfl⟩
          · exact ⟨.int .u64 ((IntKind.wrap .u64 (z)).tmod 18), ⟨_, rfl⟩, by kernel_rfl⟩
          · exact ⟨.int .u64 ((IntKind.wrap .u64 (z)).tmod 19), ⟨_, rfl⟩, by kernel_rfl⟩
          · exact ⟨.int .u64 ((IntKind.wrap .u64 (z)).tmod 20), ⟨_, rfl⟩, by kernel_rfl⟩
        rintro _ ⟨y, rfl⟩
        refine ok_go 2 ?_
        exact sy_next 0 _ q26 (by kernel_rfl) (by kernel_rfl) (ih (k + 1, IntKind.wrap .i64 y, xa, xc, gI G') _ q26 ⟨hk2, XE.trans X26, hG', by show (gI G').length ≤ 202; rw [gI_len]; omega, fun r hr => by
          obtain ⟨s, hs, rfl⟩ := List.mem_map.1 hr
          obtain ⟨j, hj, rfl⟩ := List.getElem_of_mem hs
          rw [grow_get hj, List.length_map]
          have := row_short (grow G' j) 0 G'.length (hGr j).1 (fun t ht => ⟨Nat.zero_le _, (hGr j).2 t ht⟩) (Nat.zero_le _)
          omega⟩ (show 2 - (k + 1) < 2 - k by omega) ⟨by kernel_rfl, by kernel_rfl, by kernel_rfl, (by kernel_rfl : _ = Value.int .i64 (IntKind.wrap .i64 (Int.ofNat (k + 1)))).trans (by rw [hw]), trivial⟩)
    · intro hk2
      refine sy_done 1 (v := Value.bool true) (h := g) (by kernel_rfl) ?_
      rfl
end Go.Proofs.YtegcmgjldapnmaaDoor
namespace Go.Proofs.YtegcmgjldapnmaaDoor
open Go Go.Eng Nim Go.ChangeShapes
set_option maxRecDepth 100000
section
variable {HH : Type} {enc : TypeId × Value → HH} {B : Prot} {w0 w : World}
theorem cell_block {w : World} {a : Addr} {v : Value} (h : w.cell? a = some v) : ∃ arr e fz, w.heap[a.block]? = some (.cells arr e fz) ∧ a.spot = none ∧ arr[a.off]? = some v := by
  unfold World.cell? at h
  split at h
  · rename_i c e fz hb
    split at h
    · cases h
    · rename_i hs
      refine ⟨c, e, fz, hb, ?_, h⟩
      cases hq : a.spot with
      | none => rfl
      | some q => rw [hq] at hs; simp at hs
  · cases h
theorem add_spot {a : Addr} (h : a.spot = none) (i : Nat) : a.add i = ⟨a.block, a.off + i, none⟩ := by
  obtain ⟨b, o, s⟩ := a
  simp only at h
  subst h
  unfold Addr.add
  split
  · rename_i h0; subst h0; rfl
  · rfl
/-- A slice in memory, as the evaluator sees it: the cells one by one. -/
theorem openCells {E : Env} {h : Hp} (H : HpOK Tryd.prog B w0 E h w) (hB : ∀ k, k < w.heap.size → B.ro k) {a : Addr} {len cap : Nat} (cs : List Value) (hl : cs.length = len) (hc0 : 0 < cap → a.spot = none)
    (hlc : len ≤ cap) (hcell : ∀ i v, cs[i]? = some v → w.cell? (a.add i) = some (con E v)) (hs : scL h.next cs = true) (h1 : ∀ v ∈ cs, scalar v = true) :
    ∃ E' h' v, HpOK Tryd.prog B w0 E' h' w ∧ Agree h.next E E' ∧ h.Ext h' ∧ con E' v = .slice (some a) len cap ∧ sc h'.next v = true ∧ Rds h' v cs ∧ scalar v = true ∧ WfS v := by
  subst hl
  cases cs with
  | nil =>
    refine ⟨E.ext h.next a.block 0, ⟨h.objs, h.next + 1⟩, .slice (some ⟨h.next, a.off, a.spot⟩) 0 (2 * cap), H.bump a.block, Env.ext_agree _ _ _ _, ⟨Nat.le_succ _, fun j _ => rfl⟩, ?_, by simp [sc], ?_, rfl, ?_⟩
    · obtain ⟨b, o, s⟩ := a
      cases s with
      | none => simp [con, conCap]
      | some q =>
        have hc : cap = 0 := Nat.eq_zero_of_not_pos fun hp => by have := hc0 hp; simp at this
        subst hc
        simp [con, conCap, conOff, conSpot]
    · cases hsp : a.spot with
      | none => exact .inr ⟨h.next, a.off, _, rfl, fun hn => absurd rfl hn⟩
      | some q =>
        have hc : cap = 0 := Nat.eq_zero_of_not_pos fun hp => by have := hc0 hp; rw [hsp] at this; cases this
        subst hc
        exact .inl ⟨⟨_, rfl⟩, rfl⟩
    · cases hsp : a.spot with
      | none => exact .inl ⟨rfl, Nat.zero_le _⟩
      | some q =>
        have hc : cap = 0 := Nat.eq_zero_of_not_pos fun hp => by have := hc0 hp; rw [hsp] at this; cases this
        subst hc
        exact .inr ⟨rfl, rfl⟩
  | cons v r =>
    have h0 := hcell 0 v rfl
    have hsp : a.spot = none := hc0 (by simp at hlc; omega)
    obtain ⟨arr, e, fz, hb, _, ha⟩ := cell_block h0
    rw [add_spot hsp] at ha hb
    have ha0 : a.off + 0 < arr.size := (Array.getElem?_eq_some_iff.1 ha).1
    have hR := H.newRo (m := a.block) (off := a.off) (cs := v :: r) (hB _ (Array.getElem?_eq_some_iff.1 hb).1) hb (by omega) (fun i u hu => by
      have hi := hcell i u hu
      obtain ⟨arr', e', fz', hb', _, ha'⟩ := cell_block hi
      rw [add_spot hsp] at hb' ha'
      rw [hb] at hb'
      cases hb'
      exact ha') hs h1
    refine ⟨_, _, .slice (some ⟨h.next, a.off, none⟩) (r.length + 1) (2 * cap), hR, Env.ext_agree _ _ _ _, Hp.Ext.new _ _, ?_, by simp [sc, Hp.new], .inr ⟨h.next, a.off, _, rfl, fun _ => ⟨Nat.lt_succ_self _, ?_⟩⟩, rfl, .inl ⟨rfl, by simp at hlc; omega⟩⟩
    · obtain ⟨b, o, s⟩ := a
      simp only at hsp
      subst hsp
      simp [con, conCap]
    · unfold loadN
      rw [get_new]
      have hble : Nat.ble a.off a.off = true := Nat.ble_eq_true_of_le (Nat.le_refl _)
      simp only [hble, Nat.sub_self, List.drop_zero]
      exact takeN_all (v :: r)
theorem openInts {E : Env} {h : Hp} (H : HpOK Tryd.prog B w0 E h w) (hB : ∀ k, k < w.heap.size → B.ro k) {fuel : Nat} {c : Value} {x : DataW HH × List MemPlace}
    (ht : DataW.trod enc Tryd.prog w 0 (fun _ => true) true fuel 32 [c] = some x) :
    ∃ (E' : Env) (h' : Hp) (v : Value) (r : List Int), HpOK Tryd.prog B w0 E' h' w ∧ Agree h.next E E' ∧ h.Ext h' ∧ con E' v = c ∧ sc h'.next v = true ∧ Rds h' v (r.map I) ∧ scalar v = true ∧ r.length < 2 ^ 63 ∧ WfS v := by
  rcases open_ints (k := .i64) u32 (by kernel_rfl) (by kernel_rfl) ht with ⟨hc, _⟩ | ⟨a, len, cap, zs, hc, _, hlc, hcm, hzl, _, hcell, hwf⟩
  · simp only [List.cons.injEq, and_true] at hc
    subst hc
    exact ⟨E, h, .slice none 0 0, [], H, Agree.refl _ _, Hp.Ext.refl _, by simp [con], rfl, .inl ⟨⟨none, rfl⟩, rfl⟩, rfl, by decide, ⟨rfl, rfl⟩⟩
  · simp only [List.cons.injEq, and_true] at hc
    subst hc
    simp only [if_true] at hzl
    obtain ⟨E', h', v, k1, k2, k3, k4, k5, k6, k7, k8⟩ := openCells H hB (a := a) (len := len) (cap := cap) ((zs.take len).map I) (by simp; omega) (fun hp => by
        have := hcell 0 (by omega)
        obtain ⟨_, _, _, _, h2, _⟩ := cell_block this
        unfold Addr.add at h2
        simpa using h2) hlc (fun i v hv => by
        have hil : i < len ∧ i < zs.length := by
          have := (List.getElem?_eq_some_iff.1 hv).1
          simp at this
          exact ⟨by omega, by omega⟩
        have := hcell i hil.2
        rw [this]
        rw [List.getElem?_map, List.getElem?_take, if_pos hil.1, List.getElem?_eq_getElem hil.2] at hv
        simp only [Option.map_some, Option.some.injEq] at hv
        subst hv
        rw [List.getD_eq_getElem?_getD, List.getElem?_eq_getElem hil.2]
        simp [con]) (by rw [scL_iff]; intro v hv; obtain ⟨z, _, rfl⟩ := List.mem_map.1 hv; rfl) (fun v hv => by obtain ⟨z, _, rfl⟩ := List.mem_map.1 hv; rfl)
    refine ⟨E', h', v, zs.take len, k1, k2, k3, k4, k5, k6, k7, ?_, k8⟩
    have : maxLen = 2 ^ 63 - 1 := rfl
    rw [List.length_take]
    omega
/-- Rows, one after the other. -/
theorem openRows (hB : ∀ k, k < w.heap.size → B.ro k) : ∀ (cs : List Value) {E : Env} {h : Hp} (_ : HpOK Tryd.prog B w0 E h w), (∀ c ∈ cs, ∃ (fuel : Nat) (x : DataW HH × List MemPlace), DataW.trod enc Tryd.prog w 0 (fun _ => true) true fuel 32 [c] = some x) →
    ∃ (E' : Env) (h' : Hp) (vs : List Value) (R : List (List Int)), HpOK Tryd.prog B w0 E' h' w ∧ Agree h.next E E' ∧ h.Ext h' ∧ vs.length = cs.length ∧ R.length = cs.length ∧ (∀ (i : Nat) (v : Value), vs[i]? = some v → some (con E' v) = cs[i]? ∧ sc h'.next v = true ∧ scalar v = true) ∧
      (∀ (i : Nat) (r : List Int), R[i]? = some r → ∃ rv, vs[i]? = some rv ∧ Rds h' rv (r.map I) ∧ WfS rv) ∧ ∀ r ∈ R, r.length < 2 ^ 63
  | [], E, h, H, _ => ⟨E, h, [], [], H, Agree.refl _ _, Hp.Ext.refl _, rfl, rfl, fun i v hv => (by simp at hv), fun i r hr => (by simp at hr), fun r hr => (by cases hr)⟩
  | c :: cs, E, h, H, hc => by
    obtain ⟨fuel, x, ht⟩ := hc c (by simp)
    obtain ⟨E1, h1, v, r, j1, j2, j3, j4, j5, j6, j7, j8, j9⟩ := openInts H hB ht
    obtain ⟨E2, h2, vs, R, k1, k2, k3, k4, k5, k6, k7, k8⟩ := openRows hB cs j1 fun d hd => hc d (by simp [hd])
    refine ⟨E2, h2, v :: vs, r :: R, k1, j2.trans k2 j3.next, j3.trans k3, by simp [k4], by simp [k5], fun i u hu => ?_, fun i s hs => ?_, fun s hs => ?_⟩
    · cases i with
      | zero =>
        simp only [List.getElem?_cons_zero, Option.some.injEq] at hu
        subst hu
        exact ⟨by rw [← con_congr k2 v j5, j4]; rfl, sc_mono k3.next v j5, j7⟩
      | succ i =>
        simp only [List.getElem?_cons_succ] at hu ⊢
        exact k6 i u hu
    · cases i with
      | zero =>
        simp only [List.getElem?_cons_zero, Option.some.injEq] at hs
        subst hs
        exact ⟨v, rfl, j6.ext k3, j9⟩
      | succ i =>
        simp only [List.getElem?_cons_succ] at hs ⊢
        exact k7 i s hs
    · rcases List.mem_cons.1 hs with rfl | hs
      · exact j8
      · exact k8 s hs
theorem openRowsArg {E : Env} {h : Hp} (H : HpOK Tryd.prog B w0 E h w) (hB : ∀ k, k < w.heap.size → B.ro k) {v0 : Value} {base : Nat} {d : DataW HH} {p : List MemPlace} (hval : Value.okWide Tryd.prog w .any base 31 v0)
    (ht : DataW.Trod enc Tryd.prog w 0 (fun _ => true) true 31 v0 d p) :
    ∃ (E' : Env) (h' : Hp) (v : Value) (g : List (List Int)), HpOK Tryd.prog B w0 E' h' w ∧ Agree h.next E E' ∧ h.Ext h' ∧ con E' v = v0 ∧ sc h'.next v = true ∧ GrK h' v g ∧ g.length < 2 ^ 63 ∧ ∀ r ∈ g, r.length < 2 ^ 63 := by
  obtain ⟨fuel, ht⟩ := ht
  have hsl : ∃ a l c, v0 = .slice a l c := by
    unfold Value.okWide at hval
    rw [u31] at hval
    simp only [Cell.okWide, u31, Cell.ok] at hval
    cases v0 <;> first | exact ⟨_, _, _, rfl⟩ | simp at hval
  obtain ⟨a0, l0, c0, rfl⟩ := hsl
  have hcells : (Value.slice a0 l0 c0).cells.toList = [.slice a0 l0 c0] := rfl
  rw [hcells] at ht
  have hm : maxLen = 2 ^ 63 - 1 := rfl
  have hco : Tryd.prog.cellsOf 32 = 1 := by kernel_rfl
  rcases DataW.trod_slice u31 ht with ⟨hc, _⟩ | ⟨a, len, cap, el, rest, n, rfl, hc, _, _, hlc, hcm, hel, hrow, hsp, _⟩
  · simp only [List.cons.injEq, and_true] at hc
    rw [hc]
    exact ⟨E, h, .slice none 0 0, [], H, Agree.refl _ _, Hp.Ext.refl _, by simp [con], rfl, ⟨[], .inl ⟨⟨none, rfl⟩, rfl⟩, rfl, fun i r hr => by simp at hr⟩, by decide, fun r hr => by cases hr⟩
  · simp only [List.cons.injEq, and_true] at hc
    rw [hc]
    have hr : ∀ i, i < len → ∃ c, w.cell? (a.add i) = some c ∧ ∃ x, DataW.trod enc Tryd.prog w 0 (fun _ => true) true n 32 [c] = some x := by
      intro i hi
      have h1 := hrow i hi
      rw [List.getElem?_eq_getElem (by omega), hco, Nat.mul_one, Option.bind_eq_some_iff] at h1
      obtain ⟨cs, h2, h3⟩ := h1
      have h4 : cs.length = 1 := (World.cells?_some h2).2.1
      obtain ⟨c, rfl⟩ := List.length_eq_one_iff.1 h4
      exact ⟨c, cell_of_cells?_one h2, _, h3⟩
    have hcs : ∃ cs : List Value, cs.length = len ∧ ∀ i (v : Value), cs[i]? = some v → w.cell? (a.add i) = some v ∧ ∃ x, DataW.trod enc Tryd.prog w 0 (fun _ => true) true n 32 [v] = some x := by
      refine ⟨(List.range len).map fun i => (w.cell? (a.add i)).getD Go.undef, by simp, fun i v hv => ?_⟩
      have hi : i < len := by
        have := (List.getElem?_eq_some_iff.1 hv).1
        simpa using this
      obtain ⟨c, h1, h2⟩ := hr i hi
      rw [List.getElem?_map, List.getElem?_range hi] at hv
      simp only [Option.map_some, Option.some.injEq, h1, Option.getD_some] at hv
      subst hv
      exact ⟨h1, h2⟩
    obtain ⟨cs, hl, hcs⟩ := hcs
    obtain ⟨E1, h1, vs, R, k1, k2, k3, k4, k5, k6, k7, k8⟩ := openRows (w0 := w0) hB cs H fun c hc => by
      obtain ⟨i, hi, rfl⟩ := List.getElem_of_mem hc
      obtain ⟨_, x, hx⟩ := hcs i _ (List.getElem?_eq_getElem hi)
      exact ⟨n, x, hx⟩
    obtain ⟨E2, h2, v, q1, q2, q3, q4, q5, q6, _, _⟩ := openCells k1 hB (a := a) (len := len) (cap := cap) vs (by omega) (fun hp => by
        have h5 := (hsp rfl)
        by_cases hl0 : 0 < len
        · obtain ⟨c, h6, _⟩ := hr 0 hl0
          obtain ⟨_, _, _, _, h7, _⟩ := cell_block h6
          unfold Addr.add at h7
          simpa using h7
        · have h6 := h5.2 0 (by omega)
          have hr0 : rest[0]? = some (rest[0]'(by omega)) := List.getElem?_eq_getElem (by omega)
          rw [hr0, hco, Option.bind_eq_some_iff] at h6
          obtain ⟨cs', h7, _⟩ := h6
          obtain ⟨c', rfl⟩ := List.length_eq_one_iff.1 (World.cells?_some h7).2.1
          have h8 := cell_of_cells?_one h7
          obtain ⟨_, _, _, _, h9, _⟩ := cell_block h8
          have : (len + 0) * 1 = 0 := by omega
          rw [this] at h9
          unfold Addr.add at h9
          simpa using h9) hlc (fun i u hu => by
        obtain ⟨e1, _, _⟩ := k6 i u hu
        rw [(hcs i _ e1.symm).1]) (by
          rw [scL_iff]
          intro u hu
          obtain ⟨i, hi, rfl⟩ := List.getElem_of_mem hu
          exact (k6 i _ (List.getElem?_eq_getElem hi)).2.1) (fun u hu => by
          obtain ⟨i, hi, rfl⟩ := List.getElem_of_mem hu
          exact (k6 i _ (List.getElem?_eq_getElem hi)).2.2)
    refine ⟨E2, h2, v, R, q1, k2.trans q2 k3.next, k3.trans q3, q4, q5, ⟨vs, q6, by omega, fun i r hr => ?_⟩, by omega, k8⟩
    obtain ⟨rv, e1, e2, e3⟩ := k7 i r hr
    exact ⟨rv, e1, e2.ext q3, e3⟩
end
end Go.Proofs.YtegcmgjldapnmaaDoor
namespace Go.Proofs.YtegcmgjldapnmaaDoor
open Go Go.Eng Nim
namespace heapGraphs
theorem run (v : Value) (l : List (List Int)) {h : Hp} (hg : GrK h v l) (hll : l.length < 2 ^ 63) (hrow : ∀ r ∈ l, r.length < 2 ^ 63) (a : Int) (_ : (Lit.int .i64 a).wf = true) : ∃ H, evInv Tryd.prog orc 100000 1000 (.fn 6 [v, .int .i64 a]) h = some (.bool true, H) := own6 l hll hrow a v h hg 997
end heapGraphs
end Go.Proofs.YtegcmgjldapnmaaDoor
