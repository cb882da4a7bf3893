import Derived.Test.YtmhpgdpegneejaaDoorLr1
import Derived.Test.YtmhpgdpegneejaaDoorPl5
set_option maxRecDepth 100000
set_option linter.unusedVariables false
set_option linter.unusedSimpArgs false
namespace Go.Proofs.YtmhpgdpegneejaaDoor
open Go Go.Proofs Go.Proofs.Slx
theorem l8_wakes {O : World} {w : World} {R : List Hp} (h : Sat w ((mlR O) :: R)) :
    FnC Tryd.prog 15 [] w fun v w' => v = .bool true ∧ Sat w' ((mlR O) :: R) := by
  refine fnC_of_run Tryd.func15 rfl Tryd.ntmps15 (Nat.le_of_ble_eq_true rfl) (fun cs => ?_)
  refine run_seq (run_region_lit ?_)
  refine o_rd (rd_assign rfl) trivial rfl ?_
  refine runO_nil (run_seq (run_region_lit ?_))
  refine o_ef trivial (ef_call (Tryd.call8) rfl rfl ?_)
  refine FnC.mono (disk_New h) ?_
  rintro _ w ⟨d, rfl, h⟩
  refine o_rd (rd_assign rfl) trivial rfl ?_
  refine runO_nil (run_seq (run_region_lit ?_))
  refine o_rd (rd_move rfl) trivial rfl ?_
  refine o_ef trivial (ef_call (Tryd.call16) rfl rfl ?_)
  refine FnC.mono (rs_OpenG (D := D0) open0 h) ?_
  rintro _ w ⟨b, rfl, h⟩
  refine o_rd (rd_move rfl) trivial rfl ?_
  refine o_rd (rd_extract rfl rfl) trivial rfl ?_
  refine o_rd (rd_extract rfl rfl) trivial rfl ?_
  refine o_rd (rd_assign rfl) trivial rfl ?_
  refine o_rd (rd_assign rfl) trivial rfl ?_
  refine runO_nil (run_seq (run_region_lit ?_))
  refine o_rd (rd_move rfl) trivial rfl ?_
  refine o_rd (Reads.to (v' := .agg #[.string nmab, .int .u64 ((7 : Nat) : Int)]) (rd_build B48 rfl rfl) rfl) trivial rfl ?_
  refine o_ef trivial (ef_buildSlice Tryd.underlying38 S48 rfl rfl rfl h rfl (fun t w h => ?_))
  replace h := Sat.conv (B := pt t (.cells #[.string nmab, .int .u64 ((7 : Nat) : Int)] 48)) 0 h rfl (fun _ x => x)
  refine o_ef trivial (ef_call (Tryd.call18) rfl rfl ?_)
  refine FnC.mono (rs_Set (I := []) (J := ⟨[], 0, false⟩) (D := D0) (l := [(nmab, 7)]) (c := 1) (fun g x => row_pt x) (by decide) (by decide) (by intro x hx; simp only [List.mem_singleton] at hx; subst hx; decide) (by decide) (by decide) (by decide) (by decide) (Sat.bring 3 (Sat.bring 3 (Sat.bring 3 h)))) ?_
  rintro v9 w ⟨e9, h⟩
  obtain ⟨V1, hs1, hk1, hl1⟩ := wake_set
  rw [hs1] at e9 h
  subst e9
  refine o_rd (rd_assign rfl) trivial rfl ?_
  refine runO_nil (run_seq (run_region_lit ?_))
  refine o_rd (rd_move rfl) trivial rfl ?_
  obtain ⟨jb, h⟩ := refsR_open h
  refine o_ef trivial (ef_call (Tryd.call19) rfl rfl ?_)
  refine FnC.mono (rs_Get (k := nmab) h) ?_
  rintro v8 w ⟨e8, h⟩
  simp only [] at e8
  rw [hk1] at e8
  subst e8
  refine o_rd (rd_move rfl) trivial rfl ?_
  refine o_rd (rd_extract rfl rfl) trivial rfl ?_
  refine o_rd (rd_extract rfl rfl) trivial rfl ?_
  refine o_rd (rd_assign rfl) trivial rfl ?_
  refine o_rd (rd_assign rfl) trivial rfl ?_
  refine runO_nil (run_seq (run_region_lit ?_))
  refine o_rd (rd_move rfl) trivial rfl ?_
  refine o_rd (rd_eql rfl rfl) trivial rfl ?_
  refine o_rd (rd_move rfl) trivial rfl ?_
  refine o_rd (rd_move rfl) rfl rfl ?_
  refine o_rd (Reads.to (v' := .bool true) (rd_eql rfl rfl) (rfl)) rfl rfl ?_
  refine o_rd (rd_pick_t rfl rfl) trivial rfl ?_
  refine o_rd (rd_move rfl) trivial rfl ?_
  refine o_rd (rd_move rfl) rfl rfl ?_
  refine o_rd (Reads.to (v' := .bool true) (rd_eql rfl rfl) (rfl)) rfl rfl ?_
  refine o_rd (rd_pick_t rfl rfl) trivial rfl ?_
  refine o_rd (rd_move rfl) trivial rfl ?_
  refine o_rd (rd_move rfl) rfl rfl ?_
  refine o_rd (Reads.to (v' := .bool true) (rd_eql rfl rfl) (rfl)) rfl rfl ?_
  refine o_rd (rd_pick_t rfl rfl) trivial rfl ?_
  refine o_rd (rd_move rfl) trivial rfl ?_
  refine o_rd (rd_move rfl) rfl rfl ?_
  refine o_ef rfl (ef_call (Tryd.call27) rfl rfl ?_)
  refine FnC.mono (rs_Len h) ?_
  rintro _ w ⟨rfl, h⟩
  refine o_rd (Reads.to (v' := .bool true) (rd_eql rfl rfl) (by simp only []; rw [hl1]; rfl)) rfl rfl ?_
  refine o_rd (rd_pick_t rfl rfl) trivial rfl ?_
  refine o_rd (rd_assign rfl) trivial rfl ?_
  refine runO_nil ?_
  refine run_ret Tryd.func15 (RV.tmp rfl RV.nil) ?_
  -- ret 0 path  L ['ids', 'J', 'D', 'ml', 't']
  exact ⟨rfl, (Sat.out 0 (Sat.out 1 (Sat.out 2 (Sat.out 4 h))))⟩

theorem l8_RefsNone {O : World} {name : ByteArray} {id : Int} {w : World} {R : List Hp} (h : Sat w ((mlR O) :: R)) :
    FnC Tryd.prog 6 [.string name, .int .u64 id] w fun v w' => v = .bool true ∧ Sat w' ((mlR O) :: R) := by
  refine fnC_of_run Tryd.func6 rfl Tryd.ntmps6 (Nat.le_of_ble_eq_true rfl) (fun cs => ?_)
  refine run_seq (run_region_lit ?_)
  refine o_ef trivial (ef_alloc S4 rfl h (fun rb4 w h => ?_))
  replace h := Sat.conv (B := pt rb4 (.cells #[.bool false] 4)) 0 h rfl (fun _ x => x)
  refine runO_nil (run_seq (run_seq (run_region_lit ?_)))
  refine o_ef trivial (ef_call (Tryd.call15) rfl rfl ?_)
  refine FnC.mono (l8_wakes (Sat.bring 1 h)) ?_
  rintro _ w ⟨rfl, h⟩
  refine o_rd (rd_not rfl) trivial rfl ?_
  refine runO_nil (run_cond_false rfl (run_skip (run_seq (run_region_lit ?_))))
  refine o_ef trivial (ef_call (Tryd.call16) rfl rfl ?_)
  refine FnC.mono (rs_OpenN h) ?_
  rintro _ w ⟨rfl, h⟩
  refine o_rd (rd_move rfl) trivial rfl ?_
  refine o_rd (rd_extract rfl rfl) trivial rfl ?_
  refine o_rd (rd_extract rfl rfl) trivial rfl ?_
  refine o_rd (rd_assign rfl) trivial rfl ?_
  refine o_rd (rd_assign rfl) trivial rfl ?_
  refine runO_nil (run_seq (run_region_lit ?_))
  refine o_rd (rd_assign rfl) trivial rfl ?_
  refine runO_nil (run_seq (run_region_lit ?_))
  refine o_rd (rd_move rfl) trivial rfl ?_
  refine o_rd (rd_move rfl) trivial rfl ?_
  refine o_rd (rd_move rfl) trivial rfl ?_
  refine o_rd (Reads.to (v' := .agg #[.string name, .int .u64 id]) (rd_build B48 rfl rfl) rfl) trivial rfl ?_
  refine o_ef trivial (ef_buildSlice Tryd.underlying38 S48 rfl rfl rfl h rfl (fun t w h => ?_))
  replace h := Sat.conv (B := pt t (.cells #[.string name, .int .u64 id] 48)) 0 h rfl (fun _ x => x)
  refine o_ef trivial (ef_call (Tryd.call18) rfl rfl ?_)
  refine FnC.mono (rs_SetN) ?_
  rintro _ _ ⟨rfl, rfl⟩
  refine o_rd (rd_assign rfl) trivial rfl ?_
  refine runO_nil (run_seq (run_region_lit ?_))
  refine o_rd (rd_move rfl) trivial rfl ?_
  refine o_rd (rd_move rfl) trivial rfl ?_
  refine o_ef trivial (ef_call (Tryd.call19) rfl rfl ?_)
  refine FnC.mono (rs_GetN) ?_
  rintro _ _ ⟨rfl, rfl⟩
  refine o_rd (rd_move rfl) trivial rfl ?_
  refine o_rd (rd_extract rfl rfl) trivial rfl ?_
  refine o_rd (rd_extract rfl rfl) trivial rfl ?_
  refine o_rd (rd_assign rfl) trivial rfl ?_
  refine o_rd (rd_assign rfl) trivial rfl ?_
  refine runO_nil (run_seq (run_seq (run_region_lit ?_)))
  refine o_rd (rd_move rfl) trivial rfl ?_
  refine o_ef trivial (ef_call (Tryd.call25) rfl rfl ?_)
  refine FnC.mono (rs_All (v0 := .pointer none) rfl h) ?_
  rintro _ w ⟨bx, rfl, h⟩
  refine runO_nil (run_block ?_)
  refine run_rangeFunc (cap := [.pointer (some ⟨bx, 0, none⟩)]) rfl Tryd.call54 h (fun rb lp r w hr h => ?_)
  refine FnC.mono (rs_iterN (Sat.bring 4 (Sat.bring 3 (Sat.bring 3 (Sat.bring 4 (Sat.bring 3 (Sat.out 3 h))))))) ?_
  rintro _ w h
  refine ⟨r, _, (by rw [hr.state]; intro e; cases e), (Sat.bring 4 (Sat.bring 3 (Sat.bring 4 (Sat.bring 4 (Sat.bring 4 h))))), fun w h => ?_⟩
  rw [hr.pending]
  refine run_inBlock (run_seq (run_region_lit ?_))
  refine o_rd (rd_move rfl) trivial rfl ?_
  refine o_rd (rd_eqlP0 T39 rfl rfl) trivial rfl ?_
  refine o_rd (rd_move rfl) trivial rfl ?_
  refine o_rd (rd_move rfl) rfl rfl ?_
  refine o_rd (rd_eql rfl rfl) rfl rfl ?_
  refine o_rd (rd_pick_t rfl rfl) trivial rfl ?_
  refine o_rd (rd_move rfl) trivial rfl ?_
  refine o_rd (rd_move rfl) rfl rfl ?_
  refine o_rd (rd_eql rfl rfl) rfl rfl ?_
  refine o_rd (rd_pick_t rfl rfl) trivial rfl ?_
  refine o_rd (rd_move rfl) trivial rfl ?_
  refine o_rd (rd_move rfl) rfl rfl ?_
  refine o_rd (rd_eql rfl rfl) rfl rfl ?_
  refine o_rd (rd_pick_t rfl rfl) trivial rfl ?_
  refine o_rd (rd_move rfl) trivial rfl ?_
  refine o_rd (rd_move rfl) rfl rfl ?_
  refine o_rd (rd_eql rfl rfl) rfl rfl ?_
  refine o_rd (rd_pick_t rfl rfl) trivial rfl ?_
  refine o_rd (rd_move rfl) trivial rfl ?_
  refine o_rd (rd_move rfl) rfl rfl ?_
  refine o_rd (rd_move rfl) rfl rfl ?_
  refine o_ef rfl (ef_call (Tryd.call26) rfl rfl ?_)
  refine FnC.mono (rs_UnderN h) ?_
  rintro _ w ⟨rfl, h⟩
  refine o_rd (rd_len (u := 0) T38 rfl) rfl rfl ?_
  refine o_rd (Reads.to (v' := .bool true) (rd_eql rfl rfl) (rfl)) rfl rfl ?_
  refine o_rd (rd_pick_t rfl rfl) trivial rfl ?_
  refine o_rd (rd_move rfl) trivial rfl ?_
  refine o_rd (rd_move rfl) rfl rfl ?_
  refine o_ef rfl (ef_call (Tryd.call27) rfl rfl ?_)
  refine FnC.mono (rs_LenN) ?_
  rintro _ _ ⟨rfl, rfl⟩
  refine o_rd (rd_eql rfl rfl) rfl rfl ?_
  refine o_rd (rd_pick_t rfl rfl) trivial rfl ?_
  refine o_rd (rd_move rfl) trivial rfl ?_
  refine o_ef rfl (ef_call (Tryd.call15) rfl rfl ?_)
  refine FnC.mono (l8_wakes (Sat.bring 4 h)) ?_
  rintro _ w ⟨rfl, h⟩
  refine o_rd (rd_pick_t rfl rfl) trivial rfl ?_
  refine o_ef trivial (ef_store S4 4 rfl rfl h rfl rfl rfl (Nat.le_of_ble_eq_true rfl) rfl (fun w h => ?_))
  replace h := Sat.conv (B := pt rb4 (.cells #[.bool true] 4)) 4 h rfl (fun _ x => x)
  refine runO_nil ?_
  refine run_ret1 Tryd.func6 3 h rfl (fun w h => ⟨(RV.cell rfl (run_load1 T4 rfl (h.at_ 4 rfl) rfl) RV.nil), ?_⟩)
  -- ret 0 path G0. L ['ml', 'lp', 'bx', 'rb', 'rb4']
  exact ⟨rfl, (Sat.out 1 (Sat.out 2 (Sat.out 3 (Sat.out 4 h))))⟩

end Go.Proofs.YtmhpgdpegneejaaDoor
