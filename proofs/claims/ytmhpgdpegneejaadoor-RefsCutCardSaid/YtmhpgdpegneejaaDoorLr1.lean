import Derived.Test.YtmhpgdpegneejaaDoorLr0
set_option maxRecDepth 100000
set_option linter.unusedVariables false
set_option linter.unusedSimpArgs false
namespace Go.Proofs.YtmhpgdpegneejaaDoor
open Go Go.Proofs Go.Proofs.Slx
theorem l8_cut {B : Hp} {a : Option Addr} {c : Nat} {l : Ids} {w : World} {R : List Hp} (hB : ∀ g, B g → RowH g a (rcells l)) (hlc : l.length ≤ c) (hcm : c ≤ 9223372036854775807) (hnm : ∀ x, x ∈ l → x.1.size ≤ 9223372036854775807) (h : Sat w (B :: R)) :
    FnC Tryd.prog 17 [.slice a l.length c] w fun v w' => ∃ a' n' c', v = .slice a' n' c' ∧ Sat w' (OwnS 48 2 (.slice a' n' c') (rcells (cutL l)) :: B :: R) := by
  refine fnC_of_run Tryd.func17 rfl Tryd.ntmps17 (Nat.le_of_ble_eq_true rfl) (fun cs => ?_)
  refine run_seq (run_region_lit ?_)
  refine o_rd (rd_assign rfl) trivial rfl ?_
  refine runO_nil (run_seq (run_region_lit ?_))
  refine o_rd (rd_assign rfl) trivial rfl ?_
  refine runO_nil (run_seq (run_seq (run_region_lit ?_)))
  refine o_rd (rd_move rfl) trivial rfl ?_
  refine o_rd (rd_len (u := 0) T38 rfl) trivial rfl ?_
  refine o_rd (rd_move rfl) trivial rfl ?_
  refine runO_nil ?_
  refine run_cutA 0 (σ := Value) (fun s => [(3, s)]) (fun s w => Sat w (OwnS 48 2 s (rcells (cutL l)) :: B :: R)) ?_ (fun cut1 => ?_)
  · clear h
    rintro s w h
    refine run_seq (run_region_lit ?_)
    refine o_rd (rd_move rfl) trivial rfl ?_
    refine o_rd (rd_assign rfl) trivial rfl ?_
    refine runO_nil ?_
    refine run_ret Tryd.func17 (RV.tmp rfl RV.nil) ?_
    -- ret 0 path K. L ['o', 'B']
    obtain ⟨a6, n6, c6, rfl, _⟩ := Sat.ownRow 0 h rfl
    exact ⟨a6, n6, c6, rfl, h⟩
  refine run_block ?_
  refine run_loop (σ := Nat × Value) (fun (i, s) => [(3, s), (6, .slice a l.length c), (7, .int .i64 l.length), (8, .int .i64 (i : Nat))]) (fun (i, s) w => Sat w (OwnS 48 2 s (rcells (cutR (l.take i))) :: B :: R) ∧ i ≤ l.length ∧ i ≤ 80) (fun (i, s) => l.length - i) (0, .slice none 0 0) ?_ (sub_cons rfl (sub_cons rfl (sub_cons rfl (sub_cons rfl (sub_nil _))))) ?_
  · exact ⟨Sat.lone (own_none none) h, Nat.zero_le _, Nat.zero_le _⟩
  clear h
  rintro ⟨i, s⟩ w ⟨h, hi, hi2⟩ ih
  refine run_seq (run_region_lit ?_)
  refine o_tD (rd_lss rfl rfl) trivial rfl (fun c1 => ?_) (fun c1 => ?_)
  · refine runO_nil (run_seq (run_cond_true rfl (run_skip (run_seq (run_block (run_seq ?_))))))
    obtain ⟨q, hq⟩ : ∃ q, l[i]? = some q := ⟨_, List.getElem?_eq_getElem (by omega)⟩
    have hqn := hnm q (List.mem_of_getElem? hq)
    obtain ⟨hq1, hq2⟩ := rcells_at hq
    have hrow := h.rowOf 1 rfl hB
    obtain ⟨bb, oo, C, E, fr, rfl, hb, hcell⟩ := RowW.get hrow hq1
    refine run_region_lit ?_
    refine o_rd (rd_move rfl) trivial rfl ?_
    refine o_rd (Reads.to (v' := .pointer (some ⟨bb, oo + i * 2, none⟩)) (rd_idx T38 S48 rfl rfl (by omega) (by omega)) (by simp)) trivial rfl ?_
    refine o_ldG rfl hb G48 (cutL_two (hcell _ _ hq1) (hcell _ _ hq2)) trivial rfl ?_
    refine o_ef trivial (ef_alloc S48 rfl h (fun cb w h => ?_))
    refine o_rd (rd_assign rfl) trivial rfl ?_
    refine o_ef trivial (ef_store S48 0 rfl rfl h rfl rfl rfl (Nat.le_of_ble_eq_true rfl) rfl (fun w h => ?_))
    replace h := Sat.conv (B := pt cb (.cells #[.string q.1, .int .u64 (q.2 : Int)] 48)) 0 h rfl (fun _ x => x)
    refine runO_nil (run_seq (run_seq (run_region_lit ?_)))
    refine o_rd (rd_move rfl) trivial rfl ?_
    refine o_tD (rd_eql rfl rfl) trivial rfl (fun c2 => ?_) (fun c2 => ?_)
    · refine runO_nil (run_cond_true rfl (run_exit rfl ?_))
      -- cut block 0 path L0.c1t.c2t. L ['cb', 'o', 'B']
      obtain rfl : i = 80 := by omega
      exact run_fewer (sub_cons rfl (sub_nil _)) (cut1 s w (Sat.out 0 h))
    · refine runO_nil (run_cond_false rfl (run_skip (run_seq (run_region_lit ?_))))
      refine o_rd (rd_fieldA F48_0 S9 rfl) trivial rfl ?_
      refine o_ld rfl (h.at_ 0 rfl) T9 rfl rfl trivial rfl ?_
      refine o_rd (rd_fieldA F48_0 S9 rfl) trivial rfl ?_
      refine o_ld rfl (h.at_ 0 rfl) T9 rfl rfl trivial rfl ?_
      refine o_rd (rd_lenS T9 rfl) trivial rfl ?_
      refine o_rd (rd_min rfl rfl) trivial rfl ?_
      refine o_rd (Reads.to (v' := .string (trunc q.1)) (rd_sliceSH T9 rfl rfl (by omega) (by omega)) (by unfold trunc; congr 2; omega)) trivial rfl ?_
      refine o_rd (rd_fieldA F48_0 S9 rfl) trivial rfl ?_
      refine o_ef trivial (ef_store S9 0 rfl rfl h rfl rfl rfl (Nat.le_of_ble_eq_true rfl) rfl (fun w h => ?_))
      replace h := Sat.conv (B := pt cb (.cells #[.string (trunc q.1), .int .u64 (q.2 : Int)] 48)) 0 h rfl (fun _ x => x)
      refine runO_nil (run_region_lit ?_)
      refine o_rd (rd_move rfl) trivial rfl ?_
      refine o_ldG rfl (h.at_ 0 rfl) G48 rfl trivial rfl ?_
      refine o_ef trivial (ef_buildSlice Tryd.underlying38 S48 rfl rfl rfl h rfl (fun t w h => ?_))
      replace h := Sat.conv (B := pt t (.cells #[.string (trunc q.1), .int .u64 (q.2 : Int)] 48)) 0 h rfl (fun _ x => x)
      refine o_ef trivial (ef_append Tryd.underlying38 N38 S48 rfl 2 rfl rfl h rfl (Src.slice (h.rowPt 0 rfl) rfl rfl) (rcells_len _) rfl (by simp only [cutR, List.length_map, List.length_take]; omega) (by simp only [cutR, List.length_map, List.length_take]; omega) rfl (fun a7 w h => ?_))
      rw [rcells_app] at h
      refine o_rd (rd_assign rfl) trivial rfl ?_
      refine runO_nil (run_inBlock (run_region_lit ?_))
      refine o_rd (rd_addi rfl rfl (by constructor <;> omega)) trivial rfl ?_
      refine o_rd (rd_move rfl) trivial rfl ?_
      refine runO_nil ?_
      -- round of loop 0 path L0.c1t.c2f. L ['t', 'cb', 'o', 'B']
      exact run_fewer (sub_cons rfl (sub_cons rfl (sub_cons rfl (sub_cons rfl (sub_nil _))))) (ih (i + 1, _) w ⟨by rw [List.take_add_one, hq]; simp only [Option.toList_some]; rw [cutR_snoc]; exact (Sat.out 0 (Sat.out 1 h)), by omega, by omega⟩ (by simp only []; omega))
  · refine runO_nil (run_seq (run_cond_false rfl (run_exit rfl ?_)))
    -- cut block 0 path L0.c1f. L ['o', 'B']
    have e : cutL l = cutR (l.take i) := by unfold cutL; rw [List.take_of_length_le (by omega), List.take_of_length_le (by omega)]
    exact run_fewer (sub_cons rfl (sub_nil _)) (cut1 s w (by rw [e]; exact h))

theorem l8_alike {B1 B2 : Hp} {a1 a2 : Option Addr} {k1 k2 : Nat} {x y : Ids} {w : World} {R : List Hp} (hB1 : ∀ g, B1 g → RowH g a1 (rcells x)) (hB2 : ∀ g, B2 g → RowH g a2 (rcells y)) (hx : x.length ≤ 1000000000) (hy : y.length ≤ 1000000000) (h : Sat w (B1 :: B2 :: R)) :
    FnC Tryd.prog 22 [.slice a1 x.length k1, .slice a2 y.length k2] w fun v w' => v = .bool (decide (x = y)) ∧ Sat w' (B1 :: B2 :: R) := by
  refine fnC_of_run Tryd.func22 rfl Tryd.ntmps22 (Nat.le_of_ble_eq_true rfl) (fun cs => ?_)
  refine run_seq (run_region_lit ?_)
  refine o_rd (rd_assign rfl) trivial rfl ?_
  refine runO_nil (run_seq (run_seq (run_region_lit ?_)))
  refine o_rd (rd_move rfl) trivial rfl ?_
  refine o_rd (rd_len (u := 0) T38 rfl) trivial rfl ?_
  refine o_rd (rd_move rfl) trivial rfl ?_
  refine o_rd (rd_len (u := 0) T38 rfl) trivial rfl ?_
  refine o_tN (rd_neq rfl rfl) trivial rfl (fun c1 => ?_) (fun c1 => ?_)
  · refine runO_nil (run_cond_true rfl (run_seq (run_region_lit ?_)))
    refine o_rd (rd_assign rfl) trivial rfl ?_
    refine runO_nil ?_
    refine run_ret Tryd.func22 (RV.tmp rfl RV.nil) ?_
    -- ret 0 path c1t. L ['B1', 'B2']
    rw [decide_eq_false (fun e => c1 (by rw [e]))]
    exact ⟨rfl, h⟩
  · refine runO_nil (run_cond_false rfl (run_skip (run_seq (run_seq (run_region_lit ?_)))))
    refine o_rd (rd_move rfl) trivial rfl ?_
    refine o_rd (rd_len (u := 0) T38 rfl) trivial rfl ?_
    refine o_rd (rd_move rfl) trivial rfl ?_
    refine runO_nil (run_block ?_)
    refine run_loop (σ := Nat) (fun i => [(0, .slice a1 x.length k1), (1, .slice a2 y.length k2), (12, .int .i64 x.length), (13, .int .i64 (i : Nat))]) (fun i w => Sat w (B1 :: B2 :: R) ∧ i ≤ x.length ∧ x.take i = y.take i) (fun i => x.length - i) 0 ?_ (sub_cons rfl (sub_cons rfl (sub_cons rfl (sub_cons rfl (sub_nil _))))) ?_
    · exact ⟨h, Nat.zero_le _, by simp⟩
    clear h
    rintro i w ⟨h, hi, ht⟩ ih
    refine run_seq (run_region_lit ?_)
    refine o_tD (rd_lss rfl rfl) trivial rfl (fun c2 => ?_) (fun c2 => ?_)
    · refine runO_nil (run_seq (run_cond_true rfl (run_skip (run_seq (run_block (run_seq (run_region_lit ?_)))))))
      refine o_rd (rd_move rfl) trivial rfl ?_
      refine o_rd (rd_assign rfl) trivial rfl ?_
      refine runO_nil (run_seq ?_)
      obtain ⟨p, hp⟩ : ∃ q, x[i]? = some q := ⟨_, List.getElem?_eq_getElem (by omega)⟩
      obtain ⟨q, hq⟩ : ∃ q, y[i]? = some q := ⟨_, List.getElem?_eq_getElem (by omega)⟩
      obtain ⟨hp1, hp2⟩ := rcells_at hp
      obtain ⟨hq1, hq2⟩ := rcells_at hq
      obtain ⟨bb1, oo1, C1, E1, fr1, rfl, hb1, hcell1⟩ := RowW.get (h.rowOf 0 rfl hB1) hp1
      obtain ⟨bb2, oo2, C2, E2, fr2, rfl, hb2, hcell2⟩ := RowW.get (h.rowOf 1 rfl hB2) hq1
      refine run_drawS 8 3 [(0, true), (1, true), (2, true), (3, true), (4, true), (5, true), (6, true), (7, true), (8, false)] [(_, true), (_, true), (_, true), (_, true), (_, true), (_, true), (_, true), (_, true), (_, false)] h (Holds.cons hb1 (Holds.cons hb2 (Holds.nil _))) mixed (by kernel_rfl) rfl ?_
      intro w h hK
      refine d_rd (rd_move rfl) hK trivial rfl ?_
      refine d_rd (rd_move rfl) hK trivial rfl ?_
      refine d_rd (Reads.to (v' := .pointer (some ⟨bb1, oo1 + i * 2, none⟩)) (rd_idx T38 S48 rfl rfl (by omega) (by omega)) (by simp)) hK trivial rfl ?_
      refine d_ldG rfl 0 rfl G48 (cutL_two (hcell1 _ _ hp1) (hcell1 _ _ hp2)) hK trivial rfl ?_
      refine d_rd (rd_move rfl) hK trivial rfl ?_
      refine d_rd (rd_move rfl) hK trivial rfl ?_
      refine d_rd (Reads.to (v' := .pointer (some ⟨bb2, oo2 + i * 2, none⟩)) (rd_idx T38 S48 rfl rfl (by omega) (by omega)) (by simp)) hK trivial rfl ?_
      refine d_ldG rfl 1 rfl G48 (cutL_two (hcell2 _ _ hq1) (hcell2 _ _ hq2)) hK trivial rfl ?_
      refine d_tN0 (rd_neqR R48 rfl rfl) hK trivial rfl (fun c3 => ?_) (fun c3 => ?_)
      · refine d_nil ?_
        refine run_cond_true rfl (run_seq (run_region_lit ?_))
        refine o_rd (rd_assign rfl) trivial rfl ?_
        refine runO_nil ?_
        refine run_ret Tryd.func22 (RV.tmp rfl RV.nil) ?_
        -- ret 1 path c1f.L0.c2t.c3t. L ['B1', 'B2']
        rw [decide_eq_false (fun e => c3 (by rw [e] at hp; rw [hp] at hq; cases hq; rfl))]
        exact ⟨rfl, h⟩
      · refine d_nil ?_
        refine run_cond_false rfl (run_skip (run_inBlock (run_region_lit ?_)))
        refine o_rd (rd_addi rfl rfl (by constructor <;> omega)) trivial rfl ?_
        refine o_rd (rd_move rfl) trivial rfl ?_
        refine runO_nil ?_
        -- round of loop 0 path c1f.L0.c2t.c3f. L ['B1', 'B2']
        exact run_fewer (sub_cons rfl (sub_cons rfl (sub_cons rfl (sub_cons rfl (sub_nil _))))) (ih (i + 1) w ⟨h, by omega, take_eq_succ ht hp hq (refs_eq c3)⟩ (by omega))
    · refine runO_nil (run_seq (run_cond_false rfl (run_exit rfl (run_seq (run_region_lit ?_)))))
      refine o_rd (rd_assign rfl) trivial rfl ?_
      refine runO_nil ?_
      refine run_ret Tryd.func22 (RV.tmp rfl RV.nil) ?_
      -- ret 2 path c1f.L0.c2f. L ['B1', 'B2']
      rw [List.take_of_length_le (by omega), List.take_of_length_le (by omega)] at ht
      rw [decide_eq_true ht]
      exact ⟨rfl, h⟩

theorem jr_OpenN {file : ByteArray} {w0 : World}  :
    FnC Tryd.prog 45 [.pointer none, .string file] w0 fun v w' => v = .tuple #[.pointer none, .int .i64 1] ∧ w' = w0 := by
  refine fnC_of_run Tryd.func45 rfl Tryd.ntmps45 (Nat.le_of_ble_eq_true rfl) (fun cs => ?_)
  refine run_seq (run_region_lit ?_)
  refine o_rd (rd_assign rfl) trivial rfl ?_
  refine o_rd (rd_assign rfl) trivial rfl ?_
  refine runO_nil (run_scope (run_seq (run_seq (run_region_lit ?_))))
  refine o_rd (rd_move rfl) trivial rfl ?_
  refine o_rd (rd_eqlP0 T24 rfl rfl) trivial rfl ?_
  refine runO_nil (run_cond_true rfl (run_seq (run_region_lit ?_)))
  refine o_rd (rd_assign rfl) trivial rfl ?_
  refine o_rd (rd_assign rfl) trivial rfl ?_
  refine runO_nil ?_
  refine run_ret Tryd.func45 (RV.tmp rfl (RV.tmp rfl RV.nil)) ?_
  -- ret 0 path  L []
  exact ⟨rfl, rfl⟩

theorem rs_OpenN {w : World} {R : List Hp} (h : Sat w R) :
    FnC Tryd.prog 16 [.pointer none] w fun v w' => v = .tuple #[.pointer none, .int .i64 1] ∧ Sat w' R := by
  refine fnC_of_run Tryd.func16 rfl Tryd.ntmps16 (Nat.le_of_ble_eq_true rfl) (fun cs => ?_)
  refine run_seq (run_region_lit ?_)
  refine o_ef trivial (ef_alloc S39 rfl h (fun p w h => ?_))
  replace h := Sat.conv (B := pt p (.cells #[.pointer none] 39)) 0 h rfl (fun _ x => x)
  refine o_ef trivial (ef_alloc S40 rfl h (fun q w h => ?_))
  replace h := Sat.conv (B := pt q (.cells #[.int .i64 0] 40)) 0 h rfl (fun _ x => x)
  refine runO_nil (run_seq (run_region_lit ?_))
  refine o_rd (rd_move rfl) trivial rfl ?_
  refine o_ef trivial (ef_call (Tryd.call45) rfl rfl ?_)
  refine FnC.mono (jr_OpenN (file := nmRefs)) ?_
  rintro _ _ ⟨rfl, rfl⟩
  refine o_rd (rd_move rfl) trivial rfl ?_
  refine o_rd (rd_extract rfl rfl) trivial rfl ?_
  refine o_rd (rd_extract rfl rfl) trivial rfl ?_
  refine o_rd (rd_assign rfl) trivial rfl ?_
  refine o_rd (rd_assign rfl) trivial rfl ?_
  refine runO_nil (run_seq (run_seq (run_region_lit ?_)))
  refine o_rd (rd_move rfl) trivial rfl ?_
  refine o_rd (rd_neq rfl rfl) trivial rfl ?_
  refine runO_nil (run_cond_true rfl (run_seq (run_region_lit ?_)))
  refine o_rd (rd_move rfl) trivial rfl ?_
  refine o_ef trivial (ef_store S39 1 rfl rfl h rfl rfl rfl (Nat.le_of_ble_eq_true rfl) rfl (fun w h => ?_))
  refine o_ef trivial (ef_store S40 0 rfl rfl h rfl rfl rfl (Nat.le_of_ble_eq_true rfl) rfl (fun w h => ?_))
  refine runO_nil ?_
  refine run_ret Tryd.func16 (RV.cell rfl (run_load1 T39 rfl (h.at_ 1 rfl) rfl) (RV.cell rfl (run_load1 T40 rfl (h.at_ 0 rfl) rfl) RV.nil)) ?_
  -- ret 0 path  L ['q', 'p']
  exact ⟨rfl, (Sat.out 0 (Sat.out 1 h))⟩

theorem rs_SetN {x : Value} {w0 : World}  :
    FnC Tryd.prog 18 [.pointer none, x] w0 fun v w' => v = .int .i64 1 ∧ w' = w0 := by
  refine fnC_of_run Tryd.func18 rfl Tryd.ntmps18 (Nat.le_of_ble_eq_true rfl) (fun cs => ?_)
  refine run_seq (run_region_lit ?_)
  refine o_rd (rd_assign rfl) trivial rfl ?_
  refine runO_nil (run_seq (run_seq (run_region_lit ?_)))
  refine o_rd (rd_move rfl) trivial rfl ?_
  refine o_rd (rd_eqlP0 T39 rfl rfl) trivial rfl ?_
  refine runO_nil (run_cond_true rfl (run_seq (run_region_lit ?_)))
  refine o_rd (rd_assign rfl) trivial rfl ?_
  refine runO_nil ?_
  refine run_ret Tryd.func18 (RV.tmp rfl RV.nil) ?_
  -- ret 0 path  L []
  exact ⟨rfl, rfl⟩

theorem rs_GetN {x : Value} {w0 : World}  :
    FnC Tryd.prog 19 [.pointer none, x] w0 fun v w' => v = .tuple #[.int .u64 0, .int .i64 1] ∧ w' = w0 := by
  refine fnC_of_run Tryd.func19 rfl Tryd.ntmps19 (Nat.le_of_ble_eq_true rfl) (fun cs => ?_)
  refine run_seq (run_region_lit ?_)
  refine o_rd (rd_assign rfl) trivial rfl ?_
  refine o_rd (rd_assign rfl) trivial rfl ?_
  refine runO_nil (run_seq (run_seq (run_region_lit ?_)))
  refine o_rd (rd_move rfl) trivial rfl ?_
  refine o_rd (rd_eqlP0 T39 rfl rfl) trivial rfl ?_
  refine runO_nil (run_cond_true rfl (run_seq (run_region_lit ?_)))
  refine o_rd (rd_assign rfl) trivial rfl ?_
  refine o_rd (rd_assign rfl) trivial rfl ?_
  refine runO_nil ?_
  refine run_ret Tryd.func19 (RV.tmp rfl (RV.tmp rfl RV.nil)) ?_
  -- ret 0 path  L []
  exact ⟨rfl, rfl⟩

theorem rs_LenN {w0 : World}  :
    FnC Tryd.prog 27 [.pointer none] w0 fun v w' => v = .int .i64 0 ∧ w' = w0 := by
  refine fnC_of_run Tryd.func27 rfl Tryd.ntmps27 (Nat.le_of_ble_eq_true rfl) (fun cs => ?_)
  refine run_seq (run_region_lit ?_)
  refine o_rd (rd_assign rfl) trivial rfl ?_
  refine runO_nil (run_seq (run_seq (run_region_lit ?_)))
  refine o_rd (rd_move rfl) trivial rfl ?_
  refine o_rd (rd_eqlP0 T39 rfl rfl) trivial rfl ?_
  refine runO_nil (run_cond_true rfl (run_seq (run_region_lit ?_)))
  refine o_rd (rd_assign rfl) trivial rfl ?_
  refine runO_nil ?_
  refine run_ret Tryd.func27 (RV.tmp rfl RV.nil) ?_
  -- ret 0 path  L []
  exact ⟨rfl, rfl⟩

theorem rs_iterN {bx : Nat} {fv : Value} {w : World} {R : List Hp} (h : Sat w (pt bx (.cells #[.pointer none] 39) :: R)) :
    FnC Tryd.prog 54 [fv, .pointer (some ⟨bx, 0, none⟩)] w fun v w' => Sat w' (pt bx (.cells #[.pointer none] 39) :: R) := by
  refine fnC_of_run Tryd.func54 rfl Tryd.ntmps54 (Nat.le_of_ble_eq_true rfl) (fun cs => ?_)
  refine run_seq (run_seq (run_region_lit ?_))
  refine o_ld rfl (h.at_ 0 rfl) T39 rfl rfl trivial rfl ?_
  refine o_rd (rd_eqlP0 T39 rfl rfl) trivial rfl ?_
  refine runO_nil (run_cond_true rfl ?_)
  refine run_ret Tryd.func54 RV.nil ?_
  -- ret 0 path  L ['bx']
  exact h

theorem rs_UnderN {s : ByteArray} {w : World} {R : List Hp} (h : Sat w R) :
    FnC Tryd.prog 26 [.pointer none, .string s] w fun v w' => v = .slice none 0 0 ∧ Sat w' R := by
  refine fnC_of_run Tryd.func26 rfl Tryd.ntmps26 (Nat.le_of_ble_eq_true rfl) (fun cs => ?_)
  refine run_seq (run_region_lit ?_)
  refine o_ef trivial (ef_box rfl rfl h (fun pb w h => ?_))
  replace h := Sat.conv (B := pt pb (.cells #[.string s] 9)) 0 h rfl (fun _ x => x)
  refine o_rd (rd_assign rfl) trivial rfl ?_
  refine runO_nil (run_seq (run_region_lit ?_))
  refine o_ef trivial (ef_alloc S38 rfl h (fun sb w h => ?_))
  replace h := Sat.conv (B := pt sb (.cells #[.slice none 0 0] 38)) 0 h rfl (fun _ x => x)
  refine runO_nil (run_seq (run_seq (run_region_lit ?_)))
  refine o_rd (rd_move rfl) trivial rfl ?_
  refine o_ef trivial (ef_call (Tryd.call25) rfl rfl ?_)
  refine FnC.mono (rs_All (v0 := .pointer none) rfl h) ?_
  rintro _ w ⟨bx, rfl, h⟩
  refine runO_nil (run_block ?_)
  refine run_rangeFunc (cap := [.pointer (some ⟨bx, 0, none⟩)]) rfl Tryd.call54 h (fun rb lp r w hr h => ?_)
  refine FnC.mono (rs_iterN (Sat.bring 4 (Sat.bring 3 (Sat.bring 3 (Sat.bring 4 (Sat.bring 4 h)))))) ?_
  rintro _ w h
  refine ⟨r, _, (by rw [hr.state]; intro e; cases e), (Sat.bring 4 (Sat.bring 3 (Sat.bring 4 (Sat.bring 4 (Sat.bring 4 h))))), fun w h => ?_⟩
  rw [hr.pending]
  refine run_inBlock (run_seq (run_region_lit ?_))
  refine o_ld rfl (h.at_ 3 rfl) T38 rfl rfl trivial rfl ?_
  refine o_rd (rd_assign rfl) trivial rfl ?_
  refine runO_nil ?_
  refine run_ret1 Tryd.func26 2 h rfl (fun w h => ⟨(RV.tmp rfl RV.nil), ?_⟩)
  -- ret 0 path G0. L ['lp', 'bx', 'rb', 'sb', 'pb']
  exact ⟨rfl, (Sat.out 0 (Sat.out 1 (Sat.out 2 (Sat.out 3 (Sat.out 4 h)))))⟩

theorem l8_all {b : Nat} {jv : Value} {I : Ids} {w : World} {R : List Hp} (hlen : I.length ≤ 1000000) (h : Sat w (idsR b jv I :: R)) :
    FnC Tryd.prog 21 [.pointer (some ⟨b, 0, none⟩)] w fun v w' => ∃ a' n' c', v = .slice a' n' c' ∧ Sat w' (OwnS 48 2 (.slice a' n' c') (rcells (view I)) :: idsR b jv I :: R) := by
  refine fnC_of_run Tryd.func21 rfl Tryd.ntmps21 (Nat.le_of_ble_eq_true rfl) (fun cs => ?_)
  refine run_seq (run_region_lit ?_)
  refine o_rd (rd_assign rfl) trivial rfl ?_
  refine runO_nil (run_seq (run_region_lit ?_))
  refine o_ef trivial (ef_alloc S38 rfl h (fun sb w h => ?_))
  replace h := Sat.conv (B := pt sb (.cells #[.slice none 0 0] 38)) 0 h rfl (fun _ x => x)
  refine runO_nil (run_seq (run_seq (run_region_lit ?_)))
  refine o_rd (rd_move rfl) trivial rfl ?_
  refine o_ef trivial (ef_call (Tryd.call25) rfl rfl ?_)
  refine FnC.mono (rs_All (v0 := .pointer (some ⟨b, 0, none⟩)) rfl h) ?_
  rintro _ w ⟨bx, rfl, h⟩
  refine runO_nil (run_block ?_)
  refine run_rangeFunc (cap := [.pointer (some ⟨bx, 0, none⟩)]) rfl Tryd.call54 h (fun rb lp r w hr h => ?_)
  have hsl : (sortS (keys I)).length = I.length := by rw [sortS_len]; simp [keys]
  have hvl := view_len I
  replace h := rbox_close (l := []) (Sat.swap (Sat.lone (A := OwnS 48 2 (.slice none 0 0) []) (own_none none) (Sat.bring 4 (Sat.bring 3 (Sat.bring 3 (Sat.bring 3 (Sat.bring 4 h)))))))
  refine FnC.mono (rs_iter (Rg := fun i => [rbox sb ((view I).take i), pt lp (.loop r), pt rb (.deferred (some []))] ++ R) (Rz := [pureR False]) hlen (fun i k X w hqk h => ?_) (Sat.bring 4 (Sat.bring 4 h))) ?_
  · refine callV_round hr (h.at_ 3 rfl) rfl rfl (fun F cf cs hk => ?_)
    refine run_seq (run_region_lit ?_)
    refine o_rd (rd_assign rfl) trivial rfl ?_
    refine runO_nil (run_region_lit ?_)
    refine o_rd (rd_assign rfl) trivial rfl ?_
    refine runO_nil ?_
    refine run_begin 3 h rfl hr.state (fun w h => ?_)
    refine run_block ?_
    obtain ⟨a4, c4, h⟩ := rbox_open (Sat.bring 4 (Sat.bring 3 (Sat.bring 3 (Sat.bring 4 (Sat.bring 4 h)))))
    refine run_region_lit ?_
    refine o_ld rfl (h.at_ 0 rfl) T38 rfl rfl trivial rfl ?_
    refine o_rd (rd_move rfl) trivial rfl ?_
    refine o_rd (rd_move rfl) trivial rfl ?_
    refine o_rd (Reads.to (v' := .agg #[.string k, .int .u64 (((kget I k).getD 0 : Nat) : Int)]) (rd_build B48 rfl rfl) rfl) trivial rfl ?_
    refine o_ef trivial (ef_buildSlice Tryd.underlying38 S48 rfl rfl rfl h rfl (fun t w h => ?_))
    replace h := Sat.conv (B := pt t (.cells #[.string k, .int .u64 (((kget I k).getD 0 : Nat) : Int)] 48)) 0 h rfl (fun _ x => x)
    refine o_ef trivial (ef_append Tryd.underlying38 N38 S48 rfl 2 rfl rfl h rfl (Src.slice (h.rowPt 0 rfl) rfl rfl) (rcells_len _) rfl (by simp only [List.length_take]; omega) (by simp only [List.length_take]; omega) rfl (fun a5 w h => ?_))
    rw [rcells_app] at h
    obtain ⟨a6, n6, c6, rfl, _⟩ := Sat.ownRow 2 h rfl
    refine o_ef trivial (ef_store S38 1 rfl rfl h rfl rfl rfl (Nat.le_of_ble_eq_true rfl) rfl (fun w h => ?_))
    replace h := Sat.conv (B := pt sb (.cells #[.slice a6 n6 c6] 38)) 1 h rfl (fun _ x => x)
    refine runO_nil (run_inBlock ?_)
    refine run_roundEnd 5 h rfl hk (fun w h => ?_)
    rw [hr.again] at h
    -- round end F0. L ['t', 'sb', 'own', 'X', 'ids', 'lp', 'rb']
    have hva := view_at hqk
    have h9 := rbox_close (l := (view I).take i ++ [(k, (kget I k).getD 0)]) (Sat.out 0 h)
    rw [← take_snoc hva] at h9
    exact .inl ⟨rfl, Sat.bring 2 (Sat.bring 2 h9)⟩
  · rintro _ w (h | h)
    · refine ⟨r, _, (by rw [hr.state]; intro e; cases e), (Sat.bring 4 (Sat.bring 3 (Sat.bring 3 (Sat.bring 4 h)))), fun w h => ?_⟩
      rw [hr.pending]
      refine run_inBlock (run_seq ?_)
      obtain ⟨a4, c4, h⟩ := rbox_open (Sat.bring 4 (Sat.bring 3 (Sat.bring 3 (Sat.bring 4 (Sat.bring 4 h)))))
      rw [← hvl, List.take_length] at h
      refine run_region_lit ?_
      refine o_ld rfl (h.at_ 0 rfl) T38 rfl rfl trivial rfl ?_
      refine o_rd (rd_assign rfl) trivial rfl ?_
      refine runO_nil ?_
      refine run_ret1 Tryd.func21 4 h rfl (fun w h => ⟨(RV.tmp rfl RV.nil), ?_⟩)
      -- ret 0 path G0_0. L ['sb', 'own', 'lp', 'ids', 'rb', 'bx']
      exact ⟨a4, _, c4, rfl, (Sat.out 0 (Sat.out 2 (Sat.out 4 (Sat.out 5 h))))⟩
    · exact (sat_false (Sat.bring 2 h)).elim

end Go.Proofs.YtmhpgdpegneejaaDoor
