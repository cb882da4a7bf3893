import Derived.Test.YtmhpgdpegneejaaDoorLr2
import Derived.Test.YtmhpgdpegneejaaDoorPl7
set_option maxRecDepth 100000
set_option maxHeartbeats 1000000
set_option linter.unusedVariables false
set_option linter.unusedSimpArgs false
namespace Go.Proofs.YtmhpgdpegneejaaDoor
open Go Go.Proofs Go.Proofs.Slx
theorem l8_RefsCut {O : World} {a : Option Addr} {c : Nat} {n : Int} {S : List SRow} {w : World} {R : List Hp} (hO : RowW O a (srcells S)) (hSc : S.length ≤ c) (hcm : c ≤ 9223372036854775807) (hrw : ∀ q, q ∈ S → RowW O q.a (rcells q.l) ∧ q.l.length ≤ q.c ∧ q.c ≤ 9223372036854775807 ∧ ∀ x, x ∈ q.l → x.1.size ≤ 9223372036854775807 ∧ x.2 < 18446744073709551616) (h : Sat w ((mlR O) :: R)) :
    FnC Tryd.prog 5 [.slice a S.length c, .int .i64 n] w fun v w' => v = .bool true ∧ Sat w' ((mlR O) :: R) := by
  refine fnC_of_run Tryd.func5 rfl Tryd.ntmps5 (Nat.le_of_ble_eq_true rfl) (fun cs => ?_)
  refine run_seq (run_region_lit ?_)
  refine o_rd (rd_assign rfl) trivial rfl ?_
  refine runO_nil (run_seq (run_seq (run_region_lit ?_)))
  refine o_ef trivial (ef_call (Tryd.call15) rfl rfl ?_)
  refine FnC.mono (l8_wakes h) ?_
  rintro _ w ⟨rfl, h⟩
  refine o_rd (rd_not rfl) trivial rfl ?_
  refine runO_nil (run_cond_false rfl (run_skip (run_seq (run_region_lit ?_))))
  refine o_ef trivial (ef_call (Tryd.call8) rfl rfl ?_)
  refine FnC.mono (disk_New h) ?_
  rintro _ w ⟨d, rfl, h⟩
  refine o_rd (rd_assign rfl) trivial rfl ?_
  refine runO_nil (run_seq (run_region_lit ?_))
  refine o_rd (rd_move rfl) trivial rfl ?_
  refine o_ef trivial (ef_call (Tryd.call16) rfl rfl ?_)
  refine FnC.mono (rs_OpenG (D := D0) open0 h) ?_
  rintro _ w ⟨b, rfl, h⟩
  refine o_rd (rd_move rfl) trivial rfl ?_
  refine o_rd (rd_extract rfl rfl) trivial rfl ?_
  refine o_rd (rd_extract rfl rfl) trivial rfl ?_
  refine o_rd (rd_assign rfl) trivial rfl ?_
  refine o_rd (rd_assign rfl) trivial rfl ?_
  refine runO_nil (run_seq (run_seq (run_region_lit ?_)))
  refine o_rd (rd_move rfl) trivial rfl ?_
  refine o_rd (rd_neq rfl rfl) trivial rfl ?_
  refine o_rd (rd_move rfl) trivial rfl ?_
  refine o_rd (rd_move rfl) rfl rfl ?_
  refine o_rd (rd_eqlP0 T39 rfl rfl) rfl rfl ?_
  refine o_rd (rd_pick_f rfl rfl) trivial rfl ?_
  refine runO_nil (run_cond_false rfl (run_skip (run_seq (run_region_lit ?_))))
  refine o_rd (rd_move rfl) trivial rfl ?_
  refine o_rd (rd_conv T3 T35 rfl) trivial rfl ?_
  refine o_rd (rd_rem rfl rfl (u64_nn n) (by decide)) trivial rfl ?_
  refine o_rd (rd_conv T35 T3 rfl) trivial rfl ?_
  refine o_rd (rd_assign rfl) trivial rfl ?_
  refine runO_nil (run_seq (run_seq (run_region_lit ?_)))
  refine o_rd (rd_move rfl) trivial rfl ?_
  refine o_rd (rd_move rfl) trivial rfl ?_
  refine o_ef trivial (ef_call (Tryd.call23) rfl rfl ?_)
  refine FnC.mono (disk_Cut (Sat.bring 1 h)) ?_
  rintro v9 w ⟨e9, h⟩
  rw [if_neg (show ¬(IntKind.i64.wrap (IntKind.u64.wrap n % 60)) < 0 from Int.not_lt.2 (cut_nn n))] at e9
  subst e9
  obtain ⟨DC, hDC⟩ : ∃ DC, DC = D0.setCut (IntKind.i64.wrap (IntKind.u64.wrap n % 60)) := ⟨_, rfl⟩
  rw [← hDC] at h
  have hDF : DC.files = [] := by rw [hDC]; unfold DiskV.setCut; split <;> rfl
  refine o_rd (rd_neq rfl rfl) trivial rfl ?_
  refine runO_nil (run_cond_false rfl (run_skip (run_seq (run_region_lit ?_))))
  refine o_rd (rd_move rfl) trivial rfl ?_
  obtain ⟨jb9, h⟩ := refsR_open (Sat.bring 1 h)
  refine o_ef trivial (ef_call (Tryd.call21) rfl rfl ?_)
  refine FnC.mono (l8_all (by simp) h) ?_
  rintro _ w ⟨aa, na, ca, rfl, h⟩
  obtain ⟨ay, ny, cy, ey, hly, hcy, hmy, _⟩ := Sat.ownRow 0 h rfl
  cases ey
  rw [rcells_len] at hly
  obtain rfl := Nat.eq_of_mul_eq_mul_right (by decide) hly
  refine o_rd (rd_assign rfl) trivial rfl ?_
  refine runO_nil ?_
  replace h := refsR_close (Sat.bring 4 (Sat.bring 4 (Sat.bring 2 (Sat.bring 4 (Sat.bring 4 h)))))
  refine run_seq (run_seq (run_region_lit ?_))
  refine o_rd (rd_move rfl) trivial rfl ?_
  refine o_rd (rd_len (u := 0) T56 rfl) trivial rfl ?_
  refine o_rd (rd_move rfl) trivial rfl ?_
  refine runO_nil (run_block ?_)
  refine run_loop (σ := Nat × RefV × Value) (fun (i, V, s) => [(0, .slice a S.length c), (5, .pointer (some ⟨d, 0, none⟩)), (6, .pointer (some ⟨b, 0, none⟩)), (9, s), (45, .slice a S.length c), (46, .int .i64 S.length), (47, .int .i64 (i : Nat))]) (fun (i, V, s) w => Sat w (refsR b d V.ids V.jrn :: diskR d V.disk :: OwnS 48 2 s (rcells (view V.ids)) :: (mlR O) :: R) ∧ i ≤ S.length ∧ i ≤ 25 ∧ Good V (i * 20000)) (fun (i, V, s) => S.length - i) (0, ⟨[], ⟨[], 0, false⟩, DC⟩, _) ?_ (sub_cons rfl (sub_cons rfl (sub_cons rfl (sub_cons rfl (sub_cons rfl (sub_cons rfl (sub_cons rfl (sub_nil _)))))))) ?_
  · exact ⟨(Sat.bring 3 (Sat.bring 3 (Sat.bring 2 (Sat.bring 3 h)))), Nat.zero_le _, Nat.zero_le _, good0 hDF⟩
  clear h
  rintro ⟨i, V, s⟩ w ⟨h, hi, hi2, hG⟩ ih
  obtain ⟨a6, n6, c6, rfl, hl6, hc6, hm6, _⟩ := Sat.ownRow 2 h rfl
  rw [rcells_len] at hl6
  obtain rfl := Nat.eq_of_mul_eq_mul_right (by decide) hl6
  refine run_seq (run_region_lit ?_)
  refine o_tD (rd_lss rfl rfl) trivial rfl (fun c1 => ?_) (fun c1 => ?_)
  · refine runO_nil (run_seq (run_cond_true rfl (run_skip (run_seq (run_block (run_seq ?_))))))
    obtain ⟨q, hq⟩ : ∃ q, S[i]? = some q := ⟨_, List.getElem?_eq_getElem (by omega)⟩
    obtain ⟨hqr, hqc, hqm, hqx⟩ := hrw q (List.mem_of_getElem? hq)
    have hrow := h.rowOf 3 rfl (fun g x => RowH.mono hO x.1)
    obtain ⟨bb, oo, C, E, fr, rfl, hb, hcell⟩ := RowW.get hrow (srcells_at hq)
    have hl1 := hG.len
    have hrc := hG.recs
    refine run_region_lit ?_
    refine o_rd (rd_move rfl) trivial rfl ?_
    refine o_rd (Reads.to (v' := .pointer (some ⟨bb, oo + i, none⟩)) (rd_idx T56 S38 rfl rfl (by omega) (by omega)) (by simp)) trivial rfl ?_
    refine o_ld rfl hb T38 rfl (hcell _ _ (srcells_at hq)) trivial rfl ?_
    refine o_rd (rd_assign rfl) trivial rfl ?_
    refine o_rd (rd_assign rfl) trivial rfl ?_
    refine runO_nil (run_seq (run_seq (run_region_lit ?_)))
    refine o_rd (rd_move rfl) trivial rfl ?_
    refine o_tD (rd_eql rfl rfl) trivial rfl (fun c2 => ?_) (fun c2 => ?_)
    · refine runO_nil (run_cond_true rfl (run_exit rfl (run_seq (run_region_lit ?_))))
      refine o_ef trivial (ef_call (Tryd.call15) rfl rfl ?_)
      refine FnC.mono (l8_wakes (Sat.bring 3 h)) ?_
      rintro _ w ⟨rfl, h⟩
      refine o_rd (rd_assign rfl) trivial rfl ?_
      refine runO_nil ?_
      refine run_ret Tryd.func5 (RV.tmp rfl RV.nil) ?_
      -- ret 0 path L0.c1t.c2t. L ['ml', 'refs', 'D', 'av']
      exact ⟨rfl, (Sat.out 1 (Sat.out 2 (Sat.out 3 h)))⟩
    · refine runO_nil (run_cond_false rfl (run_skip (run_seq (run_region_lit ?_))))
      refine o_rd (rd_move rfl) trivial rfl ?_
      refine o_ef trivial (ef_call (Tryd.call17) rfl rfl ?_)
      refine FnC.mono (l8_cut (l := q.l) (fun g x => RowH.mono hqr x.1) hqc hqm (fun x hx => (hqx x hx).1) (Sat.bring 3 h)) ?_
      rintro _ w ⟨a2, n2, c2, rfl, h⟩
      obtain ⟨a3, n3, c3, e3, hl3, hc3, hm3, _⟩ := Sat.ownRow 0 h rfl
      cases e3
      rw [rcells_len] at hl3
      obtain rfl : n2 = (cutL q.l).length := by omega
      have hcl1 := cutL_len q.l
      have hcl2 : ∀ x, x ∈ cutL q.l → x.1.size ≤ 250 ∧ x.2 < 18446744073709551616 := fun x hx => by obtain ⟨q1, c, q2, rfl⟩ := cutL_mem hx; exact ⟨q1, (hqx c q2).2⟩
      obtain ⟨cl, hcl⟩ : ∃ cl, cl = cutL q.l := ⟨_, rfl⟩
      rw [← hcl] at h hcl1 hcl2 hc3 ⊢
      refine o_rd (rd_assign rfl) trivial rfl ?_
      refine runO_nil (run_seq (run_region_lit ?_))
      refine o_rd (rd_move rfl) trivial rfl ?_
      refine o_ef trivial (ef_call (Tryd.call11) rfl rfl ?_)
      refine FnC.mono (disk_Copy (D := V.disk) (fun k f e => Nat.le_trans (good_fsz hG k f e) (by omega)) hG.fnd (Sat.bring 3 h)) ?_
      rintro _ w ⟨du, fs, rfl, hfp, hfg, h⟩
      obtain ⟨K, hOKu, hKE, hGu⟩ := good_copy hG (by omega) hfp hfg
      have hl2 : K.length ≤ 64 := hGu.len
      refine o_rd (rd_assign rfl) trivial rfl ?_
      refine runO_nil (run_seq (run_region_lit ?_))
      refine o_rd (rd_move rfl) trivial rfl ?_
      refine o_ef trivial (ef_call (Tryd.call16) rfl rfl ?_)
      refine FnC.mono (rs_OpenG hOKu (Sat.bring 1 (Sat.bring 3 h))) ?_
      rintro _ w ⟨bu, rfl, h⟩
      refine o_rd (rd_move rfl) trivial rfl ?_
      refine o_rd (rd_extract rfl rfl) trivial rfl ?_
      refine o_rd (rd_extract rfl rfl) trivial rfl ?_
      refine o_rd (rd_assign rfl) trivial rfl ?_
      refine o_rd (rd_assign rfl) trivial rfl ?_
      refine runO_nil (run_seq (run_seq (run_region_lit ?_)))
      refine o_rd (rd_move rfl) trivial rfl ?_
      refine o_rd (rd_neq rfl rfl) trivial rfl ?_
      refine o_rd (rd_move rfl) trivial rfl ?_
      refine o_rd (rd_move rfl) rfl rfl ?_
      obtain ⟨jb9, h⟩ := refsR_open h
      refine o_ef rfl (ef_call (Tryd.call21) rfl rfl ?_)
      refine FnC.mono (l8_all (by omega) h) ?_
      rintro _ w ⟨aa, na, ca, rfl, h⟩
      obtain ⟨ay, ny, cy, ey, hly, hcy, hmy, _⟩ := Sat.ownRow 0 h rfl
      cases ey
      rw [rcells_len] at hly
      obtain rfl := Nat.eq_of_mul_eq_mul_right (by decide) hly
      refine o_rd (rd_move rfl) rfl rfl ?_
      refine o_ef rfl (ef_call (Tryd.call22) rfl rfl ?_)
      refine FnC.mono (l8_alike (x := view K) (y := view V.ids) (fun g x => own_rowR g x) (fun g x => own_rowR g x) (by rw [view_length]; omega) (by rw [view_length]; omega) (Sat.bring 1 (Sat.bring 8 h))) ?_
      rintro _ w ⟨rfl, h⟩
      rw [decide_eq_true (view_congr hKE)]
      refine o_rd (rd_not rfl) rfl rfl ?_
      refine o_rd (rd_pick_f rfl rfl) trivial rfl ?_
      refine runO_nil ?_
      replace h := refsR_close (Sat.bring 8 (Sat.bring 8 (Sat.bring 6 (Sat.bring 6 (Sat.bring 8 (Sat.bring 8 (Sat.bring 8 (Sat.bring 8 (Sat.bring 8 h)))))))))
      refine run_cond_false rfl (run_skip (run_seq (run_region_lit ?_)))
      refine o_rd (rd_move rfl) trivial rfl ?_
      refine o_rd (rd_move rfl) trivial rfl ?_
      refine o_ef trivial (ef_call (Tryd.call18) rfl rfl ?_)
      refine FnC.mono (rs_Set (I := K) (J := ⟨V.jrn.recs, V.jrn.size, false⟩) (D := ⟨fs, 0, 0, false⟩) (l := cl) (fun g x => own_rowR g x) (by omega) (by omega) (fun x hx => ⟨by have := (hcl2 x hx).1; omega, (hcl2 x hx).2⟩) (by omega) (by first | omega | (dsimp only; omega)) (by first | omega | (dsimp only; omega)) (by first | omega | (dsimp only; omega)) (Sat.bring 3 (Sat.bring 5 (Sat.bring 5 (Sat.bring 6 h))))) ?_
      rintro v9 w ⟨e9, h⟩
      obtain ⟨U1, no, hsU⟩ : ∃ V1 e1, RefV.set ⟨K, ⟨V.jrn.recs, V.jrn.size, false⟩, ⟨fs, 0, 0, false⟩⟩ cl = (V1, e1) := ⟨_, _, rfl⟩
      rw [hsU] at e9 h
      subst e9
      dsimp only at h
      refine o_rd (rd_assign rfl) trivial rfl ?_
      refine runO_nil (run_seq (run_region_lit ?_))
      refine o_rd (rd_move rfl) trivial rfl ?_
      refine o_rd (rd_move rfl) trivial rfl ?_
      refine o_ef trivial (ef_call (Tryd.call18) rfl rfl ?_)
      refine FnC.mono (rs_Set (I := V.ids) (J := V.jrn) (D := V.disk) (l := cl) (fun g x => own_rowR g x) (by omega) (by omega) (fun x hx => ⟨by have := (hcl2 x hx).1; omega, (hcl2 x hx).2⟩) (by omega) (by first | omega | (dsimp only; omega)) (by first | omega | (dsimp only; omega)) (by first | omega | (dsimp only; omega)) (Sat.bring 7 (Sat.bring 6 (Sat.bring 3 (Sat.bring 3 h))))) ?_
      rintro v9 w ⟨e9, h⟩
      obtain ⟨V1, e1, hsV⟩ : ∃ V1 e1, RefV.set ⟨V.ids, V.jrn, V.disk⟩ cl = (V1, e1) := ⟨_, _, rfl⟩
      rw [hsV] at e9 h
      subst e9
      dsimp only at h
      refine o_rd (rd_assign rfl) trivial rfl ?_
      refine runO_nil ?_
      have hpair := cut_pair hG hGu hKE rfl (by omega) hcl1 (fun x hx => (hcl2 x hx).2) hsV hsU
      refine run_seq (run_seq (run_region_lit ?_))
      refine o_rd (rd_move rfl) trivial rfl ?_
      refine o_tD (rd_eql rfl rfl) trivial rfl (fun c3 => ?_) (fun c3 => ?_)
      · obtain ⟨_, hno, hids, hUl, K3, D3, hOK3, hK3, hG3, W1, hsW, hWv, hWl⟩ := hpair.resolve_left (fun x => x.1 c3)
        have hl3 : K3.length ≤ 64 := hG3.len
        subst hno
        rw [hids] at h
        refine runO_nil (run_cond_true rfl (run_seq (run_seq (run_region_lit ?_))))
        refine o_rd (rd_move rfl) trivial rfl ?_
        refine o_rd (Reads.to (v' := .bool false) (rd_neq rfl rfl) (rfl)) trivial rfl ?_
        refine o_rd (rd_move rfl) trivial rfl ?_
        refine o_rd (rd_move rfl) rfl rfl ?_
        obtain ⟨jb9, h⟩ := refsR_open h
        refine o_ef rfl (ef_call (Tryd.call21) rfl rfl ?_)
        refine FnC.mono (l8_all (by omega) h) ?_
        rintro _ w ⟨aa, na, ca, rfl, h⟩
        obtain ⟨ay, ny, cy, ey, hly, hcy, hmy, _⟩ := Sat.ownRow 0 h rfl
        cases ey
        rw [rcells_len] at hly
        obtain rfl := Nat.eq_of_mul_eq_mul_right (by decide) hly
        refine o_rd (rd_move rfl) rfl rfl ?_
        refine o_ef rfl (ef_call (Tryd.call22) rfl rfl ?_)
        refine FnC.mono (l8_alike (x := view V.ids) (y := view V.ids) (fun g x => own_rowR g x) (fun g x => own_rowR g x) (by rw [view_length]; omega) (by rw [view_length]; omega) (Sat.bring 1 (Sat.bring 9 h))) ?_
        rintro _ w ⟨rfl, h⟩
        rw [decide_eq_true (rfl)]
        refine o_rd (rd_not rfl) rfl rfl ?_
        refine o_rd (rd_pick_f rfl rfl) trivial rfl ?_
        refine o_rd (rd_move rfl) trivial rfl ?_
        refine o_rd (rd_move rfl) rfl rfl ?_
        refine o_ef rfl (ef_call (Tryd.call24) rfl rfl ?_)
        refine FnC.mono (disk_Mend (Sat.bring 4 h)) ?_
        rintro _ w ⟨rfl, h⟩
        refine o_rd (rd_neq rfl rfl) rfl rfl ?_
        refine o_rd (rd_pick_f rfl rfl) trivial rfl ?_
        refine runO_nil (run_cond_false rfl (run_skip (run_seq (run_region_lit ?_))))
        refine o_rd (rd_move rfl) trivial rfl ?_
        refine o_ef trivial (ef_call (Tryd.call16) rfl rfl ?_)
        refine FnC.mono (rs_OpenG hOK3 (Sat.bring 1 (Sat.bring 5 h))) ?_
        rintro _ w ⟨b3, rfl, h⟩
        refine o_rd (rd_move rfl) trivial rfl ?_
        refine o_rd (rd_extract rfl rfl) trivial rfl ?_
        refine o_rd (rd_extract rfl rfl) trivial rfl ?_
        refine o_rd (rd_assign rfl) trivial rfl ?_
        refine o_rd (rd_assign rfl) trivial rfl ?_
        refine runO_nil (run_seq (run_seq (run_region_lit ?_)))
        refine o_rd (rd_move rfl) trivial rfl ?_
        refine o_rd (rd_neq rfl rfl) trivial rfl ?_
        refine o_rd (rd_move rfl) trivial rfl ?_
        refine o_rd (rd_move rfl) rfl rfl ?_
        refine o_rd (rd_eqlP0 T39 rfl rfl) rfl rfl ?_
        refine o_rd (rd_pick_f rfl rfl) trivial rfl ?_
        refine runO_nil (run_cond_false rfl (run_skip (run_seq (run_region_lit ?_))))
        refine o_rd (rd_move rfl) trivial rfl ?_
        obtain ⟨jb9, h⟩ := refsR_open h
        refine o_ef trivial (ef_call (Tryd.call21) rfl rfl ?_)
        refine FnC.mono (l8_all (by omega) h) ?_
        rintro _ w ⟨aa, na, ca, rfl, h⟩
        obtain ⟨ay, ny, cy, ey, hly, hcy, hmy, _⟩ := Sat.ownRow 0 h rfl
        cases ey
        rw [rcells_len] at hly
        obtain rfl := Nat.eq_of_mul_eq_mul_right (by decide) hly
        refine o_rd (rd_assign rfl) trivial rfl ?_
        refine runO_nil ?_
        replace h := refsR_close (Sat.bring 12 (Sat.bring 12 (Sat.bring 10 (Sat.bring 12 (Sat.bring 12 (Sat.bring 12 (Sat.bring 12 (Sat.bring 12 (Sat.bring 12 (Sat.bring 12 (Sat.bring 12 (Sat.bring 12 (Sat.bring 12 h)))))))))))))
        refine run_seq (run_seq (run_region_lit ?_))
        refine o_rd (rd_move rfl) trivial rfl ?_
        refine o_rd (rd_move rfl) trivial rfl ?_
        refine o_ef trivial (ef_call (Tryd.call22) rfl rfl ?_)
        refine FnC.mono (l8_alike (x := view K3) (y := view V.ids) (fun g x => own_rowR g x) (fun g x => own_rowR g x) (by rw [view_length]; omega) (by rw [view_length]; omega) (Sat.bring 2 (Sat.bring 5 h))) ?_
        rintro _ w ⟨rfl, h⟩
        rw [decide_eq_true (view_congr hK3)]
        refine o_rd (rd_not rfl) trivial rfl ?_
        refine o_rd (rd_move rfl) trivial rfl ?_
        refine o_pass rfl rfl rfl rfl ?_
        refine o_pass rfl rfl rfl rfl ?_
        refine o_pass rfl rfl rfl rfl ?_
        refine o_pass rfl rfl rfl rfl ?_
        refine o_pass rfl rfl rfl rfl ?_
        refine o_rd (rd_pick_f rfl rfl) trivial rfl ?_
        refine runO_nil (run_cond_false rfl (run_skip (run_seq (run_seq (run_region_lit ?_)))))
        refine o_rd (rd_move rfl) trivial rfl ?_
        refine o_rd (rd_move rfl) trivial rfl ?_
        refine o_ef trivial (ef_call (Tryd.call18) rfl rfl ?_)
        refine FnC.mono (rs_Set (I := K3) (J := ⟨V.jrn.recs, V.jrn.size, false⟩) (D := D3) (l := cl) (fun g x => own_rowR g x) (by omega) (by omega) (fun x hx => ⟨by have := (hcl2 x hx).1; omega, (hcl2 x hx).2⟩) (by omega) (by first | omega | (dsimp only; omega)) (by first | omega | (dsimp only; omega)) (by first | omega | (dsimp only; omega)) (Sat.bring 5 (Sat.bring 5 (Sat.bring 5 (Sat.bring 8 h))))) ?_
        rintro v9 w ⟨e9, h⟩
        rw [hsW] at e9 h
        subst e9
        dsimp only at h
        refine o_rd (rd_assign rfl) trivial rfl ?_
        refine runO_nil (run_seq (run_region_lit ?_))
        refine o_rd (rd_move rfl) trivial rfl ?_
        refine o_rd (rd_move rfl) trivial rfl ?_
        obtain ⟨jb9, h⟩ := refsR_open (Sat.bring 9 h)
        refine o_ef trivial (ef_call (Tryd.call21) rfl rfl ?_)
        refine FnC.mono (l8_all (by omega) h) ?_
        rintro _ w ⟨aa, na, ca, rfl, h⟩
        obtain ⟨ay, ny, cy, ey, hly, hcy, hmy, _⟩ := Sat.ownRow 0 h rfl
        cases ey
        rw [rcells_len] at hly
        obtain rfl := Nat.eq_of_mul_eq_mul_right (by decide) hly
        refine o_ef trivial (ef_call (Tryd.call22) rfl rfl ?_)
        refine FnC.mono (l8_alike (x := view K3) (y := view U1.ids) (fun g x => own_rowR g x) (fun g x => own_rowR g x) (by rw [view_length]; omega) (by rw [view_length]; omega) (Sat.bring 7 h)) ?_
        rintro _ w ⟨rfl, h⟩
        refine o_know (b := _) 124 rfl (fun c4 => ?_) (fun c4 => ?_)
        · refine o_rd (rd_not rfl) trivial rfl ?_
          refine o_rd (rd_move rfl) trivial rfl ?_
          refine o_pass rfl rfl rfl rfl ?_
          refine o_pass rfl rfl rfl rfl ?_
          refine o_pass rfl rfl rfl rfl ?_
          refine o_pass rfl rfl rfl rfl ?_
          refine o_pass rfl rfl rfl rfl ?_
          refine o_pass rfl rfl rfl rfl ?_
          refine o_pass rfl rfl rfl rfl ?_
          refine o_pass rfl rfl rfl rfl ?_
          refine o_pass rfl rfl rfl rfl ?_
          refine o_pass rfl rfl rfl rfl ?_
          refine o_rd (rd_pick_f rfl rfl) trivial rfl ?_
          refine runO_nil (run_cond_false rfl (run_skip (run_seq (run_region_lit ?_))))
          refine o_ef trivial (ef_call (Tryd.call15) rfl rfl ?_)
          refine FnC.mono (l8_wakes (Sat.bring 6 h)) ?_
          rintro _ w ⟨rfl, h⟩
          refine o_rd (rd_assign rfl) trivial rfl ?_
          refine runO_nil ?_
          refine run_ret Tryd.func5 (RV.tmp rfl RV.nil) ?_
          -- ret 1 path L0.c1t.c2f.c3t.c4t. L ['ml', 'x106', 'x123', 'idsU', 'JU', 'refs3', 'D', 'cl', 'av', 'x84', 'ids', 'J', 'DU', 'x67']
          exact ⟨rfl, (Sat.out 1 (Sat.out 2 (Sat.out 3 (Sat.out 4 (Sat.out 5 (Sat.out 6 (Sat.out 7 (Sat.out 8 (Sat.out 9 (Sat.out 10 (Sat.out 11 (Sat.out 12 (Sat.out 13 h)))))))))))))⟩
        · refine o_rd (rd_not rfl) trivial rfl ?_
          refine o_rd (rd_move rfl) trivial rfl ?_
          refine o_rd (rd_move rfl) rfl rfl ?_
          refine o_rd (rd_neq rfl rfl) rfl rfl ?_
          refine o_rd (rd_move rfl) rfl rfl ?_
          refine o_rd (rd_move rfl) rfl rfl ?_
          obtain ⟨jb9, h⟩ := refsR_open (Sat.bring 4 h)
          refine o_ef rfl (ef_call (Tryd.call21) rfl rfl ?_)
          refine FnC.mono (l8_all (by omega) h) ?_
          rintro _ w ⟨aa, na, ca, rfl, h⟩
          obtain ⟨ay, ny, cy, ey, hly, hcy, hmy, _⟩ := Sat.ownRow 0 h rfl
          cases ey
          rw [rcells_len] at hly
          obtain rfl := Nat.eq_of_mul_eq_mul_right (by decide) hly
          refine o_rd (rd_move rfl) rfl rfl ?_
          refine o_ef rfl (ef_call (Tryd.call21) rfl rfl ?_)
          refine FnC.mono (l8_all (by omega) (Sat.bring 5 h)) ?_
          rintro _ w ⟨aa, na, ca, rfl, h⟩
          obtain ⟨ay, ny, cy, ey, hly, hcy, hmy, _⟩ := Sat.ownRow 0 h rfl
          cases ey
          rw [rcells_len] at hly
          obtain rfl := Nat.eq_of_mul_eq_mul_right (by decide) hly
          refine o_ef rfl (ef_call (Tryd.call22) rfl rfl ?_)
          refine FnC.mono (l8_alike (x := view W1.ids) (y := view U1.ids) (fun g x => own_rowR g x) (fun g x => own_rowR g x) (by rw [view_length]; omega) (by rw [view_length]; omega) (Sat.bring 2 h)) ?_
          rintro _ w ⟨rfl, h⟩
          rw [decide_eq_true (hWv)]
          refine o_rd (rd_not rfl) rfl rfl ?_
          refine o_rd (rd_pick_f rfl rfl) rfl rfl ?_
          refine o_rd (rd_pick_t rfl rfl) trivial rfl ?_
          refine runO_nil (run_cond_false rfl (run_skip (run_seq (run_region_lit ?_))))
          refine o_ef trivial (ef_call (Tryd.call15) rfl rfl ?_)
          refine FnC.mono (l8_wakes (Sat.bring 9 h)) ?_
          rintro _ w ⟨rfl, h⟩
          refine o_rd (rd_assign rfl) trivial rfl ?_
          refine runO_nil ?_
          refine run_ret Tryd.func5 (RV.tmp rfl RV.nil) ?_
          -- ret 2 path L0.c1t.c2f.c3t.c4f. L ['ml', 'x131', 'x133', 'idsU', 'ids3', 'J3', 'x106', 'x123', 'JU', 'D', 'cl', 'av', 'x84', 'ids', 'J', 'DU', 'x67']
          exact ⟨rfl, (Sat.out 1 (Sat.out 2 (Sat.out 3 (Sat.out 4 (Sat.out 5 (Sat.out 6 (Sat.out 7 (Sat.out 8 (Sat.out 9 (Sat.out 10 (Sat.out 11 (Sat.out 12 (Sat.out 13 (Sat.out 14 (Sat.out 15 (Sat.out 16 h))))))))))))))))⟩
      · obtain ⟨_, hen, hvv, hG1, hUl⟩ := hpair.resolve_right (fun x => c3 x.1)
        have hl4 := hG1.len
        subst hen
        refine runO_nil (run_cond_false rfl (run_skip (run_seq (run_seq (run_region_lit ?_)))))
        refine o_rd (rd_move rfl) trivial rfl ?_
        refine o_rd (rd_move rfl) trivial rfl ?_
        refine o_rd (Reads.to (v' := .bool false) (rd_neq rfl rfl) (by simp)) trivial rfl ?_
        refine o_rd (rd_move rfl) trivial rfl ?_
        refine o_rd (rd_move rfl) rfl rfl ?_
        obtain ⟨jb9, h⟩ := refsR_open h
        refine o_ef rfl (ef_call (Tryd.call21) rfl rfl ?_)
        refine FnC.mono (l8_all (by omega) h) ?_
        rintro _ w ⟨aa, na, ca, rfl, h⟩
        obtain ⟨ay, ny, cy, ey, hly, hcy, hmy, _⟩ := Sat.ownRow 0 h rfl
        cases ey
        rw [rcells_len] at hly
        obtain rfl := Nat.eq_of_mul_eq_mul_right (by decide) hly
        refine o_rd (rd_move rfl) rfl rfl ?_
        obtain ⟨jb9, h⟩ := refsR_open (Sat.bring 6 h)
        refine o_ef rfl (ef_call (Tryd.call21) rfl rfl ?_)
        refine FnC.mono (l8_all (by omega) h) ?_
        rintro _ w ⟨aa, na, ca, rfl, h⟩
        obtain ⟨ay, ny, cy, ey, hly, hcy, hmy, _⟩ := Sat.ownRow 0 h rfl
        cases ey
        rw [rcells_len] at hly
        obtain rfl := Nat.eq_of_mul_eq_mul_right (by decide) hly
        refine o_ef rfl (ef_call (Tryd.call22) rfl rfl ?_)
        refine FnC.mono (l8_alike (x := view V1.ids) (y := view U1.ids) (fun g x => own_rowR g x) (fun g x => own_rowR g x) (by rw [view_length]; omega) (by rw [view_length]; omega) (Sat.bring 3 h)) ?_
        rintro _ w ⟨rfl, h⟩
        rw [decide_eq_true (hvv.symm)]
        refine o_rd (rd_not rfl) rfl rfl ?_
        refine o_rd (rd_pick_f rfl rfl) trivial rfl ?_
        refine runO_nil (run_cond_false rfl (run_skip (run_region_lit ?_)))
        refine o_rd (rd_move rfl) trivial rfl ?_
        refine o_ef trivial (ef_call (Tryd.call21) rfl rfl ?_)
        refine FnC.mono (l8_all (by omega) (Sat.bring 4 h)) ?_
        rintro _ w ⟨aa, na, ca, rfl, h⟩
        obtain ⟨ay, ny, cy, ey, hly, hcy, hmy, _⟩ := Sat.ownRow 0 h rfl
        cases ey
        rw [rcells_len] at hly
        obtain rfl := Nat.eq_of_mul_eq_mul_right (by decide) hly
        refine o_rd (rd_assign rfl) trivial rfl ?_
        refine runO_nil ?_
        replace h := refsR_close (Sat.bring 12 (Sat.bring 12 (Sat.bring 10 (Sat.bring 11 (Sat.bring 11 (Sat.bring 11 (Sat.bring 11 (Sat.bring 12 (Sat.bring 12 (Sat.bring 12 (Sat.bring 12 (Sat.bring 12 (Sat.bring 12 h)))))))))))))
        refine run_inBlock (run_region_lit ?_)
        refine o_rd (rd_addi rfl rfl (by constructor <;> omega)) trivial rfl ?_
        refine o_rd (rd_move rfl) trivial rfl ?_
        refine runO_nil ?_
        -- round of loop 0 path L0.c1t.c2f.c3f. L ['refs', 'x151', 'x144', 'x146', 'idsU', 'JU', 'D', 'ml', 'cl', 'DU', 'x67', 'av']
        have e5 : (i + 1) * 20000 = i * 20000 + 20000 := by omega
        exact run_fewer (sub_cons rfl (sub_cons rfl (sub_cons rfl (sub_cons rfl (sub_cons rfl (sub_cons rfl (sub_cons rfl (sub_nil _)))))))) (ih (i + 1, V1, _) w ⟨(Sat.bring 3 (Sat.bring 3 (Sat.bring 2 (Sat.bring 3 (Sat.out 2 (Sat.out 3 (Sat.out 4 (Sat.out 5 (Sat.out 8 (Sat.out 9 (Sat.out 10 (Sat.out 11 h)))))))))))), by omega, by omega, by rw [e5]; exact hG1⟩ (by simp only []; omega))
  · refine runO_nil (run_seq (run_cond_false rfl (run_exit rfl (run_seq (run_region_lit ?_)))))
    refine o_ef trivial (ef_call (Tryd.call15) rfl rfl ?_)
    refine FnC.mono (l8_wakes (Sat.bring 3 h)) ?_
    rintro _ w ⟨rfl, h⟩
    refine o_rd (rd_assign rfl) trivial rfl ?_
    refine runO_nil ?_
    refine run_ret Tryd.func5 (RV.tmp rfl RV.nil) ?_
    -- ret 3 path L0.c1f. L ['ml', 'refs', 'D', 'av']
    exact ⟨rfl, (Sat.out 1 (Sat.out 2 (Sat.out 3 h)))⟩

end Go.Proofs.YtmhpgdpegneejaaDoor
