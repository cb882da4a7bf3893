import Derived.Test.YtmhpgdpegneejaaDoorLr2
import Derived.Test.YtmhpgdpegneejaaDoorPl6
set_option maxRecDepth 100000
set_option linter.unusedVariables false
set_option linter.unusedSimpArgs false
namespace Go.Proofs.YtmhpgdpegneejaaDoor
open Go Go.Proofs Go.Proofs.Slx
theorem l8_RefsAgain {O : World} {a : Option Addr} {c : Nat} {l : Ids} {w : World} {R : List Hp} (hO : RowW O a (rcells l)) (hlc : l.length ≤ c) (hcm : c ≤ 9223372036854775807) (hnm : ∀ x, x ∈ l → x.1.size ≤ 9223372036854775807 ∧ x.2 < 18446744073709551616) (h : Sat w ((mlR O) :: R)) :
    FnC Tryd.prog 4 [.slice a l.length c] w fun v w' => v = .bool true ∧ Sat w' ((mlR O) :: R) := by
  refine fnC_of_run Tryd.func4 rfl Tryd.ntmps4 (Nat.le_of_ble_eq_true rfl) (fun cs => ?_)
  refine run_seq (run_region_lit ?_)
  refine o_rd (rd_assign rfl) trivial rfl ?_
  refine runO_nil (run_seq (run_seq (run_region_lit ?_)))
  refine o_ef trivial (ef_call (Tryd.call15) rfl rfl ?_)
  refine FnC.mono (l8_wakes h) ?_
  rintro _ w ⟨rfl, h⟩
  refine o_rd (rd_not rfl) trivial rfl ?_
  refine runO_nil (run_cond_false rfl (run_skip (run_seq (run_region_lit ?_))))
  refine o_ef trivial (ef_call (Tryd.call8) rfl rfl ?_)
  refine FnC.mono (disk_New h) ?_
  rintro _ w ⟨d, rfl, h⟩
  refine o_rd (rd_assign rfl) trivial rfl ?_
  refine runO_nil (run_seq (run_region_lit ?_))
  refine o_rd (rd_move rfl) trivial rfl ?_
  refine o_ef trivial (ef_call (Tryd.call16) rfl rfl ?_)
  refine FnC.mono (rs_OpenG (D := D0) open0 h) ?_
  rintro _ w ⟨b, rfl, h⟩
  refine o_rd (rd_move rfl) trivial rfl ?_
  refine o_rd (rd_extract rfl rfl) trivial rfl ?_
  refine o_rd (rd_extract rfl rfl) trivial rfl ?_
  refine o_rd (rd_assign rfl) trivial rfl ?_
  refine o_rd (rd_assign rfl) trivial rfl ?_
  refine runO_nil (run_seq (run_region_lit ?_))
  refine o_ef trivial (ef_makeMap rfl h (fun mm w h => ?_))
  refine o_rd (rd_assign rfl) trivial rfl ?_
  refine runO_nil ?_
  replace h := Sat.conv (B := mapR strK mm (encI [])) 0 h rfl (mapR_empty strK mm)
  refine run_seq (run_seq (run_region_lit ?_))
  refine o_rd (rd_move rfl) trivial rfl ?_
  refine o_ef trivial (ef_call (Tryd.call17) rfl rfl ?_)
  refine FnC.mono (l8_cut (l := l) (fun g x => RowH.mono hO x.1) hlc hcm (fun x hx => (hnm x hx).1) (Sat.bring 3 h)) ?_
  rintro _ w ⟨a2, n2, c2, rfl, h⟩
  obtain ⟨a3, n3, c3, e3, hl3, hc3, hm3, _⟩ := Sat.ownRow 0 h rfl
  cases e3
  rw [rcells_len] at hl3
  obtain rfl : n2 = (cutL l).length := by omega
  have hcl1 := cutL_len l
  have hcl2 : ∀ x, x ∈ cutL l → x.1.size ≤ 250 ∧ x.2 < 18446744073709551616 := fun x hx => by obtain ⟨q1, c, q2, rfl⟩ := cutL_mem hx; exact ⟨q1, (hnm c q2).2⟩
  obtain ⟨cl, hcl⟩ : ∃ cl, cl = cutL l := ⟨_, rfl⟩
  rw [← hcl] at h hcl1 hcl2 hc3 ⊢
  refine o_rd (rd_len (u := 0) T38 rfl) trivial rfl ?_
  refine o_rd (rd_move rfl) trivial rfl ?_
  refine runO_nil (run_block ?_)
  refine run_loop (σ := Nat × RefV × Ids) (fun (i, V, la) => [(3, .pointer (some ⟨d, 0, none⟩)), (4, .pointer (some ⟨b, 0, none⟩)), (6, .map (some mm)), (26, .slice a2 cl.length c2), (27, .int .i64 cl.length), (28, .int .i64 (i : Nat))]) (fun (i, V, la) w => Sat w (refsR b d V.ids V.jrn :: diskR d V.disk :: mapR strK mm (encI la) :: OwnS 48 2 (.slice a2 cl.length c2) (rcells cl) :: (mlR O) :: R) ∧ i ≤ cl.length ∧ Good V (i * 20000) ∧ V.disk.cut = false ∧ Ag V la) (fun (i, V, la) => cl.length - i) (0, ⟨[], ⟨[], 0, false⟩, D0⟩, []) ?_ (sub_cons rfl (sub_cons rfl (sub_cons rfl (sub_cons rfl (sub_cons rfl (sub_cons rfl (sub_nil _))))))) ?_
  · exact ⟨(Sat.bring 4 (Sat.bring 4 (Sat.bring 2 (Sat.bring 1 (Sat.bring 1 h))))), Nat.zero_le _, good0 rfl, rfl, ⟨by simp [keys], fun k n e => by simp [kget] at e⟩⟩
  clear h
  rintro ⟨i, V, la⟩ w ⟨h, hi, hG, hcut, hA⟩ ih
  refine run_seq (run_region_lit ?_)
  refine o_tD (rd_lss rfl rfl) trivial rfl (fun c1 => ?_) (fun c1 => ?_)
  · refine runO_nil (run_seq (run_cond_true rfl (run_skip (run_seq (run_block (run_seq ?_))))))
    obtain ⟨q, hq⟩ : ∃ q, cl[i]? = some q := ⟨_, List.getElem?_eq_getElem (by omega)⟩
    obtain ⟨hq1, hq2⟩ := rcells_at hq
    have hrow := h.rowOf 3 rfl (fun g x => own_rowR g x)
    obtain ⟨bb, oo, C, E, fr, rfl, hb, hcell⟩ := RowW.get hrow hq1
    refine run_region_lit ?_
    refine o_rd (Reads.to (v' := .pointer (some ⟨bb, oo + i * 2, none⟩)) (rd_idx T38 S48 rfl rfl (by omega) (by omega)) (by simp)) trivial rfl ?_
    refine o_ldG rfl hb G48 (cutL_two (hcell _ _ hq1) (hcell _ _ hq2)) trivial rfl ?_
    refine o_ef trivial (ef_alloc S48 rfl h (fun cb w h => ?_))
    refine o_ef trivial (ef_store S48 0 rfl rfl h rfl rfl rfl (Nat.le_of_ble_eq_true rfl) rfl (fun w h => ?_))
    replace h := Sat.conv (B := pt cb (.cells #[.string q.1, .int .u64 (q.2 : Int)] 48)) 0 h rfl (fun _ x => x)
    refine runO_nil (run_seq (run_region_lit ?_))
    refine o_rd (rd_move rfl) trivial rfl ?_
    refine o_ldG rfl (h.at_ 0 rfl) G48 rfl trivial rfl ?_
    refine o_ef trivial (ef_buildSlice Tryd.underlying38 S48 rfl rfl rfl h rfl (fun t w h => ?_))
    replace h := Sat.conv (B := pt t (.cells #[.string q.1, .int .u64 (q.2 : Int)] 48)) 0 h rfl (fun _ x => x)
    refine o_ef trivial (ef_call (Tryd.call18) rfl rfl ?_)
    refine FnC.mono (rs_Set (I := V.ids) (J := V.jrn) (D := V.disk) (l := [(q.1, q.2)]) (c := 1) (fun g x => row_pt x) (by simp) (by simp) (by intro x hx; simp only [List.mem_singleton] at hx; subst hx; exact ⟨by have := (hcl2 q (List.mem_of_getElem? hq)).1; simp only []; omega, (hcl2 q (List.mem_of_getElem? hq)).2⟩) (by have := hG.len; omega) (by have := hG.recs; omega) (by have := hG.recs; omega) (by have := hG.recs; omega) (Sat.bring 4 (Sat.bring 4 (Sat.bring 6 h)))) ?_
    rintro v9 w ⟨e9, h⟩
    obtain ⟨V1, e1, hs1⟩ : ∃ V1 e1, RefV.set ⟨V.ids, V.jrn, V.disk⟩ [(q.1, q.2)] = (V1, e1) := ⟨_, _, rfl⟩
    rw [hs1] at e9 h
    subst e9
    obtain ⟨g1, g2, g3, g4⟩ := ag_step hG (by omega) hcut (q := (q.1, q.2)) (hcl2 q (List.mem_of_getElem? hq)).2 hA hs1
    refine o_tD (rd_eql rfl rfl) trivial rfl (fun c2 => ?_) (fun c2 => ?_)
    · refine runO_nil (run_cond_true rfl (run_region_lit ?_))
      refine o_rd (rd_move rfl) trivial rfl ?_
      refine o_rd (rd_fieldA F48_0 S9 rfl) trivial rfl ?_
      refine o_ld rfl (h.at_ 4 rfl) T9 rfl rfl trivial rfl ?_
      refine o_rd (rd_fieldA F48_1 S46 rfl) trivial rfl ?_
      refine o_ld rfl (h.at_ 4 rfl) T46 rfl rfl trivial rfl ?_
      refine o_ef trivial (ef_mapUpdate Tryd.underlying43 K9 5 rfl rfl rfl h rfl (fun w h => ?_))
      refine runO_nil ?_
      replace h := Sat.conv (B := mapR strK mm (encI (kset la q.1 q.2))) 5 h rfl (fun _ x => by rw [← kset_encI]; exact x)
      refine run_inBlock (run_region_lit ?_)
      refine o_rd (rd_addi rfl rfl (by constructor <;> omega)) trivial rfl ?_
      refine o_rd (rd_move rfl) trivial rfl ?_
      refine runO_nil ?_
      -- round of loop 0 path L0.c1t.c2t. L ['refs', 'D', 'ml', 't', 'cb', 'mm', 'cl']
      have e5 : (i + 1) * 20000 = i * 20000 + 20000 := by omega
      exact run_fewer (sub_cons rfl (sub_cons rfl (sub_cons rfl (sub_cons rfl (sub_cons rfl (sub_cons rfl (sub_nil _))))))) (ih (i + 1, V1, kset la q.1 q.2) w ⟨(Sat.bring 4 (Sat.bring 4 (Sat.bring 4 (Sat.bring 4 (Sat.bring 2 (Sat.out 3 (Sat.out 4 h))))))), by omega, by rw [e5]; exact g1, g2, g3 c2⟩ (by simp only []; omega))
    · refine runO_nil (run_cond_false rfl (run_skip (run_inBlock (run_region_lit ?_))))
      refine o_rd (rd_addi rfl rfl (by constructor <;> omega)) trivial rfl ?_
      refine o_rd (rd_move rfl) trivial rfl ?_
      refine runO_nil ?_
      -- round of loop 0 path L0.c1t.c2f. L ['refs', 'D', 'ml', 't', 'cb', 'mm', 'cl']
      have e5 : (i + 1) * 20000 = i * 20000 + 20000 := by omega
      exact run_fewer (sub_cons rfl (sub_cons rfl (sub_cons rfl (sub_cons rfl (sub_cons rfl (sub_cons rfl (sub_nil _))))))) (ih (i + 1, V1, la) w ⟨(Sat.bring 4 (Sat.bring 4 (Sat.bring 4 (Sat.bring 4 (Sat.bring 2 (Sat.out 3 (Sat.out 4 h))))))), by omega, by rw [e5]; exact g1, g2, g4 c2⟩ (by simp only []; omega))
  · refine runO_nil (run_seq (run_cond_false rfl (run_exit rfl (run_seq (run_seq (run_region_lit ?_))))))
    refine o_rd (rd_move rfl) trivial rfl ?_
    refine o_ef trivial (ef_range Tryd.underlying43 2 rfl h rfl rfl (fun it w h => ?_))
    refine runO_nil (run_block ?_)
    refine run_loop (σ := List (ByteArray × Value) × Option (ByteArray × Value)) (fun (left, cur) => [(3, .pointer (some ⟨d, 0, none⟩)), (4, .pointer (some ⟨b, 0, none⟩)), (44, .pointer (some ⟨it, 0, none⟩))]) (fun (left, cur) w => Sat w (refsR b d V.ids V.jrn :: diskR d V.disk :: iterR strK mm it (encI la) left cur :: OwnS 48 2 (.slice a2 cl.length c2) (rcells cl) :: (mlR O) :: R) ∧ ∀ x ∈ left, x ∈ encI la) (fun (left, cur) => left.length) (encI la, none) ?_ (sub_cons rfl (sub_cons rfl (sub_cons rfl (sub_nil _)))) ?_
    · exact ⟨h, fun x hx => hx⟩
    clear h
    rintro ⟨left, cur⟩ w ⟨h, hsub⟩ ih
    refine run_seq (run_region_lit ?_)
    refine o_ef trivial (ef_next 2 rfl h rfl rfl (fun hnil w h => ?_) (fun l1 q v l2 hl w h => ?_))
    · refine o_rd (rd_extract rfl rfl) trivial rfl ?_
      refine runO_nil (run_seq (run_cond_false rfl (run_exit rfl (run_seq (run_region_lit ?_)))))
      refine o_rd (rd_move rfl) trivial rfl ?_
      refine o_ef trivial (ef_call (Tryd.call20) rfl rfl ?_)
      refine FnC.mono (disk_Writes (Sat.bring 1 h)) ?_
      rintro _ w ⟨rfl, h⟩
      refine o_rd (rd_assign rfl) trivial rfl ?_
      refine runO_nil (run_seq (run_seq (run_region_lit ?_)))
      refine o_rd (rd_move rfl) trivial rfl ?_
      refine o_rd (rd_move rfl) trivial rfl ?_
      obtain ⟨jb, h⟩ := refsR_open (Sat.bring 4 (Sat.bring 3 (Sat.bring 4 (Sat.bring 4 (Sat.bring 4 h)))))
      refine o_ef trivial (ef_call (Tryd.call21) rfl rfl ?_)
      refine FnC.mono (l8_all (by have := hG.len; omega) h) ?_
      rintro _ w ⟨aa, na, ca, rfl, h⟩
      obtain ⟨ay, ny, cy, ey, hly, hcy, hmy, _⟩ := Sat.ownRow 0 h rfl
      cases ey
      rw [rcells_len] at hly
      replace h := refsR_close (Sat.bring 4 (Sat.bring 4 (Sat.bring 4 (Sat.bring 4 (Sat.out 4 (Sat.out 5 h))))))
      obtain rfl : na = (view V.ids).length := by omega
      refine o_ef trivial (ef_call (Tryd.call18) rfl rfl ?_)
      refine FnC.mono (rs_Set (I := V.ids) (J := V.jrn) (D := V.disk) (l := (view V.ids)) (fun g x => own_rowR g x) (by have := hG.len; rw [view_len, sortS_len]; simp only [keys, List.length_map]; omega) (by omega) (fun x hx => by obtain ⟨_, _, _, u1, u2⟩ := view_ok hG x hx; exact ⟨by omega, u1⟩) (by have := hG.len; omega) (by have := hG.recs; omega) (by have := hG.recs; omega) (by have := hG.recs; omega) h) ?_
      rintro v9 w ⟨e9, h⟩
      rw [ag_view hG] at e9 h
      subst e9
      dsimp only at h
      refine o_rd (rd_neq rfl rfl) trivial rfl ?_
      refine o_rd (rd_move rfl) trivial rfl ?_
      refine o_rd (rd_move rfl) rfl rfl ?_
      refine o_ef rfl (ef_call (Tryd.call20) rfl rfl ?_)
      refine FnC.mono (disk_Writes (Sat.bring 1 h)) ?_
      rintro _ w ⟨rfl, h⟩
      refine o_rd (rd_move rfl) rfl rfl ?_
      refine o_rd (Reads.to (v' := .bool false) (rd_neq rfl rfl) (by simp)) rfl rfl ?_
      refine o_rd (rd_pick_f rfl rfl) trivial rfl ?_
      refine runO_nil (run_cond_false rfl (run_skip (run_seq ?_)))
      obtain ⟨K, hOK, hKE, hG2⟩ := good_open hG (by omega)
      refine run_region_lit ?_
      refine o_rd (rd_move rfl) trivial rfl ?_
      refine o_ef trivial (ef_call (Tryd.call16) rfl rfl ?_)
      refine FnC.mono (rs_OpenG hOK (Sat.bring 1 (Sat.bring 2 h))) ?_
      rintro _ w ⟨b2, rfl, h⟩
      refine o_rd (rd_move rfl) trivial rfl ?_
      refine o_rd (rd_extract rfl rfl) trivial rfl ?_
      refine o_rd (rd_extract rfl rfl) trivial rfl ?_
      refine o_rd (rd_assign rfl) trivial rfl ?_
      refine o_rd (rd_assign rfl) trivial rfl ?_
      refine runO_nil (run_seq (run_region_lit ?_))
      refine o_rd (rd_move rfl) trivial rfl ?_
      refine o_rd (rd_eql rfl rfl) trivial rfl ?_
      refine o_rd (rd_move rfl) trivial rfl ?_
      refine o_rd (rd_move rfl) rfl rfl ?_
      obtain ⟨jb2, h⟩ := refsR_open (Sat.bring 3 (Sat.bring 3 (Sat.bring 2 (Sat.bring 2 (Sat.out 4 h)))))
      obtain ⟨jb, h⟩ := refsR_open (Sat.bring 2 h)
      refine o_ef rfl (ef_call (Tryd.call21) rfl rfl ?_)
      refine FnC.mono (l8_all (by have := hG2.len; simp only [] at this; omega) (Sat.bring 2 h)) ?_
      rintro _ w ⟨aa, na, ca, rfl, h⟩
      obtain ⟨ay, ny, cy, ey, hly, hcy, hmy, _⟩ := Sat.ownRow 0 h rfl
      cases ey
      rw [rcells_len] at hly
      refine o_rd (rd_move rfl) rfl rfl ?_
      obtain rfl : na = (view K).length := by omega
      refine o_ef rfl (ef_call (Tryd.call21) rfl rfl ?_)
      refine FnC.mono (l8_all (by have := hG.len; omega) (Sat.bring 2 h)) ?_
      rintro _ w ⟨aa, na, ca, rfl, h⟩
      obtain ⟨ay, ny, cy, ey, hly, hcy, hmy, _⟩ := Sat.ownRow 0 h rfl
      cases ey
      rw [rcells_len] at hly
      obtain rfl : na = (view V.ids).length := by omega
      refine o_ef rfl (ef_call (Tryd.call22) rfl rfl ?_)
      refine FnC.mono (l8_alike (x := view K) (y := view V.ids) (fun g x => own_rowR g x) (fun g x => own_rowR g x) (by have := hG2.len; dsimp only at this; rw [view_length]; omega) (by have := hG.len; rw [view_length]; omega) (Sat.bring 2 h)) ?_
      rintro _ w ⟨rfl, h⟩
      rw [decide_eq_true (view_congr hKE)]
      refine o_rd (rd_pick_t rfl rfl) trivial rfl ?_
      refine o_rd (rd_move rfl) trivial rfl ?_
      refine o_rd (rd_move rfl) rfl rfl ?_
      refine o_ef rfl (ef_call (Tryd.call20) rfl rfl ?_)
      refine FnC.mono (disk_Writes (Sat.bring 6 h)) ?_
      rintro _ w ⟨rfl, h⟩
      refine o_rd (rd_move rfl) rfl rfl ?_
      refine o_rd (Reads.to (v' := .bool true) (rd_eql rfl rfl) (by simp)) rfl rfl ?_
      refine o_rd (rd_pick_t rfl rfl) trivial rfl ?_
      refine o_rd (rd_move rfl) trivial rfl ?_
      refine o_ef rfl (ef_call (Tryd.call15) rfl rfl ?_)
      refine FnC.mono (l8_wakes (Sat.bring 7 h)) ?_
      rintro _ w ⟨rfl, h⟩
      refine o_rd (rd_pick_t rfl rfl) trivial rfl ?_
      refine o_rd (rd_assign rfl) trivial rfl ?_
      refine runO_nil ?_
      refine run_ret Tryd.func4 (RV.tmp rfl RV.nil) ?_
      -- ret 0 path L0.c1f.L1.N0. L ['ml', 'D', 'av88', 'av90', 'ids', 'ids2', 'J', 'J2']
      exact ⟨rfl, (Sat.out 1 (Sat.out 2 (Sat.out 3 (Sat.out 4 (Sat.out 5 (Sat.out 6 (Sat.out 7 h)))))))⟩
    · obtain ⟨id, rfl, hid⟩ := mem_encI hA.nd (hsub (q, v) (by rw [hl]; simp))
      refine o_rd (rd_extract rfl rfl) trivial rfl ?_
      refine runO_nil (run_seq (run_cond_true rfl (run_skip (run_block (run_seq (run_region_lit ?_))))))
      refine o_ef trivial (ef_entry 2 rfl h rfl rfl ?_)
      refine o_rd (rd_extract rfl rfl) trivial rfl ?_
      refine o_rd (rd_extract rfl rfl) trivial rfl ?_
      refine o_rd (rd_assign rfl) trivial rfl ?_
      refine o_rd (rd_assign rfl) trivial rfl ?_
      refine runO_nil (run_seq ?_)
      obtain ⟨jb, h⟩ := refsR_open h
      refine run_region_lit ?_
      refine o_rd (rd_move rfl) trivial rfl ?_
      refine o_rd (rd_move rfl) trivial rfl ?_
      refine o_ef trivial (ef_call (Tryd.call19) rfl rfl ?_)
      refine FnC.mono (rs_Get (k := q) h) ?_
      rintro _ w ⟨rfl, h⟩
      refine o_rd (rd_move rfl) trivial rfl ?_
      refine o_rd (rd_extract rfl rfl) trivial rfl ?_
      refine o_rd (rd_extract rfl rfl) trivial rfl ?_
      refine o_rd (rd_assign rfl) trivial rfl ?_
      refine o_rd (rd_assign rfl) trivial rfl ?_
      refine runO_nil ?_
      replace h := refsR_close h
      refine run_seq (run_region_lit ?_)
      refine o_rd (rd_move rfl) trivial rfl ?_
      refine o_rd (rd_move rfl) trivial rfl ?_
      refine o_tN (rd_neq rfl rfl) trivial rfl (fun c3 => ?_) (fun c3 => ?_)
      · exact (c3 (by rw [hA.eq q id hid])).elim
      · refine o_rd (rd_move rfl) trivial rfl ?_
        refine o_rd (rd_move rfl) rfl rfl ?_
        refine o_rd (rd_eql rfl rfl) rfl rfl ?_
        refine o_rd (rd_move rfl) rfl rfl ?_
        refine o_rd (rd_neq rfl rfl) rfl rfl ?_
        refine o_rd (Reads.to (v' := .bool false) (rd_neqB T4 rfl rfl) (congrArg Value.bool (ag_flag hG hA hid))) rfl rfl ?_
        refine o_rd (rd_pick_f rfl rfl) trivial rfl ?_
        refine runO_nil (run_cond_false rfl (run_skip (run_inBlock ?_)))
        -- round of loop 1 path L0.c1f.L1.N1.c3f. L ['refs', 'D', 'mm', 'cl', 'ml']
        exact run_fewer (sub_cons rfl (sub_cons rfl (sub_cons rfl (sub_nil _)))) (ih (l1 ++ l2, some (q, .int .u64 (id : Int))) w ⟨h, fun x hx => hsub x (by rw [hl]; simp only [List.mem_append, List.mem_cons] at hx ⊢; rcases hx with y | y; exact .inl y; exact .inr (.inr y))⟩ (by simp only [hl, List.length_append, List.length_cons]; omega))

end Go.Proofs.YtmhpgdpegneejaaDoor
