import Derived.Test.YtmhpgdpegneejaaDoorDk0
set_option maxRecDepth 100000
set_option linter.unusedVariables false
set_option linter.unusedSimpArgs false
namespace Go.Proofs.YtmhpgdpegneejaaDoor
open Go Go.Proofs Go.Proofs.Slx
theorem disk_Writes {b : Nat} {D : DiskV} {w : World} {R : List Hp} (h : Sat w (diskR b D :: R)) :
    FnC Tryd.prog 20 [(.pointer (some ⟨b, 0, none⟩))] w fun v w' => v = .int .i64 D.writes ∧ Sat w' (diskR b D :: R) := by
  obtain ⟨m, kvs, h⟩ := diskR_open h
  refine fnC_of_run Tryd.func20 rfl Tryd.ntmps20 (Nat.le_of_ble_eq_true rfl) (fun cs => ?_)
  refine run_seq (run_region_lit ?_)
  refine o_rd (rd_assign rfl) trivial rfl ?_
  refine runO_nil (run_seq (run_seq (run_region_lit ?_)))
  refine o_rd (rd_move rfl) trivial rfl ?_
  refine o_rd (rd_eqlP0 T24 rfl rfl) trivial rfl ?_
  refine runO_nil (run_cond_false rfl (run_skip (run_seq (run_region_lit ?_))))
  refine o_rd (rd_move rfl) trivial rfl ?_
  refine o_rd (rd_nil rfl) trivial rfl ?_
  refine o_rd (rd_fieldA F70_1 S3 rfl) trivial rfl ?_
  refine o_ld rfl (h.at_ 0 rfl) T3 rfl rfl trivial rfl ?_
  refine o_rd (rd_assign rfl) trivial rfl ?_
  refine runO_nil ?_
  refine run_ret Tryd.func20 (RV.tmp rfl RV.nil) ?_
  -- ret 0 path  L ['d', 'm', 'vals']
  exact ⟨rfl, diskR_close h⟩

theorem disk_Cut {b : Nat} {D : DiskV} {n : Int} {w : World} {R : List Hp} (h : Sat w (diskR b D :: R)) :
    FnC Tryd.prog 23 [(.pointer (some ⟨b, 0, none⟩)), .int .i64 n] w fun v w' => v = .int .i64 (if n < 0 then 2 else 0) ∧ Sat w' (diskR b (D.setCut n) :: R) := by
  obtain ⟨m, kvs, h⟩ := diskR_open h
  refine fnC_of_run Tryd.func23 rfl Tryd.ntmps23 (Nat.le_of_ble_eq_true rfl) (fun cs => ?_)
  refine run_seq (run_region_lit ?_)
  refine o_rd (rd_assign rfl) trivial rfl ?_
  refine runO_nil (run_seq (run_block (run_seq (run_region_lit ?_))))
  refine o_rd (rd_move rfl) trivial rfl ?_
  refine o_rd (rd_eqlP0 T24 rfl rfl) trivial rfl ?_
  refine o_rd (rd_assign rfl) trivial rfl ?_
  refine runO_nil (run_cond_false rfl (run_seq (run_region_lit ?_)))
  refine o_rd (rd_move rfl) trivial rfl ?_
  refine o_tD (rd_lss rfl rfl) trivial rfl (fun c1 => ?_) (fun c1 => ?_)
  · refine o_rd (rd_assign rfl) trivial rfl ?_
    refine runO_nil (run_cond_true rfl (run_seq (run_region_lit ?_)))
    refine o_rd (rd_assign rfl) trivial rfl ?_
    refine runO_nil ?_
    refine run_ret Tryd.func23 (RV.tmp rfl RV.nil) ?_
    -- ret 0 path c1t. L ['d', 'm', 'vals']
    exact ⟨by rw [if_pos c1]; rfl, by rw [DiskV.setCut, if_pos c1]; exact diskR_close h⟩
  · refine o_rd (rd_assign rfl) trivial rfl ?_
    refine runO_nil (run_cond_false rfl (run_skip (run_inBlock (run_seq (run_region_lit ?_)))))
    refine o_rd (rd_move rfl) trivial rfl ?_
    refine o_rd (rd_move rfl) trivial rfl ?_
    refine o_rd (rd_move rfl) trivial rfl ?_
    refine o_rd (rd_nil rfl) trivial rfl ?_
    refine o_rd (rd_fieldA F70_2 S3 rfl) trivial rfl ?_
    refine o_ef trivial (ef_store S3 0 rfl rfl h rfl rfl rfl (Nat.le_of_ble_eq_true rfl) rfl (fun w h => ?_))
    refine o_rd (rd_nil rfl) trivial rfl ?_
    refine o_rd (rd_fieldA F70_3 S4 rfl) trivial rfl ?_
    refine o_ef trivial (ef_store S4 0 rfl rfl h rfl rfl rfl (Nat.le_of_ble_eq_true rfl) rfl (fun w h => ?_))
    refine runO_nil (run_seq (run_region_lit ?_))
    refine o_rd (rd_assign rfl) trivial rfl ?_
    refine runO_nil ?_
    refine run_ret Tryd.func23 (RV.tmp rfl RV.nil) ?_
    -- ret 1 path c1f. L ['d', 'm', 'vals']
    exact ⟨by rw [if_neg (by omega)]; rfl, by rw [DiskV.setCut, if_neg (by omega)]; exact diskR_close h⟩

theorem disk_Mend {b : Nat} {D : DiskV} {w : World} {R : List Hp} (h : Sat w (diskR b D :: R)) :
    FnC Tryd.prog 24 [(.pointer (some ⟨b, 0, none⟩))] w fun v w' => v = .int .i64 0 ∧ Sat w' (diskR b D.mend :: R) := by
  obtain ⟨m, kvs, h⟩ := diskR_open h
  refine fnC_of_run Tryd.func24 rfl Tryd.ntmps24 (Nat.le_of_ble_eq_true rfl) (fun cs => ?_)
  refine run_seq (run_region_lit ?_)
  refine o_rd (rd_assign rfl) trivial rfl ?_
  refine runO_nil (run_seq (run_seq (run_region_lit ?_)))
  refine o_rd (rd_move rfl) trivial rfl ?_
  refine o_rd (rd_eqlP0 T24 rfl rfl) trivial rfl ?_
  refine runO_nil (run_cond_false rfl (run_skip (run_seq (run_region_lit ?_))))
  refine o_rd (rd_move rfl) trivial rfl ?_
  refine o_rd (rd_move rfl) trivial rfl ?_
  refine o_rd (rd_nil rfl) trivial rfl ?_
  refine o_rd (rd_fieldA F70_2 S3 rfl) trivial rfl ?_
  refine o_ef trivial (ef_store S3 0 rfl rfl h rfl rfl rfl (Nat.le_of_ble_eq_true rfl) rfl (fun w h => ?_))
  refine o_rd (rd_nil rfl) trivial rfl ?_
  refine o_rd (rd_fieldA F70_3 S4 rfl) trivial rfl ?_
  refine o_ef trivial (ef_store S4 0 rfl rfl h rfl rfl rfl (Nat.le_of_ble_eq_true rfl) rfl (fun w h => ?_))
  refine runO_nil (run_seq (run_region_lit ?_))
  refine o_rd (rd_assign rfl) trivial rfl ?_
  refine runO_nil ?_
  refine run_ret Tryd.func24 (RV.tmp rfl RV.nil) ?_
  -- ret 0 path  L ['d', 'm', 'vals']
  exact ⟨rfl, diskR_close h⟩

theorem disk_Cutting {b : Nat} {D : DiskV} {w : World} {R : List Hp} (h : Sat w (diskR b D :: R)) :
    FnC Tryd.prog 34 [(.pointer (some ⟨b, 0, none⟩))] w fun v w' => v = .tuple #[.int .i64 (if D.cut then D.left else 0), .bool D.cut] ∧ Sat w' (diskR b D :: R) := by
  obtain ⟨m, kvs, h⟩ := diskR_open h
  refine fnC_of_run Tryd.func34 rfl Tryd.ntmps34 (Nat.le_of_ble_eq_true rfl) (fun cs => ?_)
  refine run_seq (run_region_lit ?_)
  refine o_rd (rd_assign rfl) trivial rfl ?_
  refine o_rd (rd_assign rfl) trivial rfl ?_
  refine runO_nil (run_seq (run_seq (run_region_lit ?_)))
  refine o_rd (rd_move rfl) trivial rfl ?_
  refine o_rd (rd_eqlP0 T24 rfl rfl) trivial rfl ?_
  refine o_rd (rd_move rfl) trivial rfl ?_
  refine o_rd (rd_move rfl) rfl rfl ?_
  refine o_rd (rd_nil rfl) rfl rfl ?_
  refine o_rd (rd_fieldA F70_3 S4 rfl) rfl rfl ?_
  refine o_ld rfl (h.at_ 0 rfl) T4 rfl rfl rfl rfl ?_
  refine o_know (b := _) 10 rfl (fun c1 => ?_) (fun c1 => ?_)
  · refine o_rd (rd_not rfl) rfl rfl ?_
    refine o_rd (rd_pick_f rfl rfl) trivial rfl ?_
    refine runO_nil (run_cond_false rfl (run_skip (run_seq (run_region_lit ?_))))
    refine o_rd (rd_move rfl) trivial rfl ?_
    refine o_rd (rd_nil rfl) trivial rfl ?_
    refine o_rd (rd_fieldA F70_2 S3 rfl) trivial rfl ?_
    refine o_ld rfl (h.at_ 0 rfl) T3 rfl rfl trivial rfl ?_
    refine o_rd (rd_assign rfl) trivial rfl ?_
    refine o_rd (rd_assign rfl) trivial rfl ?_
    refine runO_nil ?_
    refine run_ret Tryd.func34 (RV.tmp rfl (RV.tmp rfl RV.nil)) ?_
    -- ret 0 path c1t. L ['d', 'm', 'vals']
    exact ⟨by simp only [c1]; rfl, diskR_close h⟩
  · refine o_rd (rd_not rfl) rfl rfl ?_
    refine o_rd (rd_pick_f rfl rfl) trivial rfl ?_
    refine runO_nil (run_cond_true rfl (run_seq (run_region_lit ?_)))
    refine o_rd (rd_assign rfl) trivial rfl ?_
    refine o_rd (rd_assign rfl) trivial rfl ?_
    refine runO_nil ?_
    refine run_ret Tryd.func34 (RV.tmp rfl (RV.tmp rfl RV.nil)) ?_
    -- ret 1 path c1f. L ['d', 'm', 'vals']
    exact ⟨by simp only [c1]; rfl, diskR_close h⟩

theorem disk_may {name : ByteArray} {w0 : World}  :
    FnC Tryd.prog 58 [.string name] w0 fun v w' => v = .bool (may name) ∧ w' = w0 := by
  have hsz : name.data.toList.length = name.size := rfl
  refine fnC_of_run Tryd.func58 rfl Tryd.ntmps58 (Nat.le_of_ble_eq_true rfl) (fun cs => ?_)
  refine run_seq (run_region_lit ?_)
  refine o_rd (rd_assign rfl) trivial rfl ?_
  refine runO_nil (run_seq (run_seq (run_region_lit ?_)))
  refine o_rd (rd_move rfl) trivial rfl ?_
  refine o_rd (rd_lenS T9 rfl) trivial rfl ?_
  refine o_tD (rd_lss rfl rfl) trivial rfl (fun c1 => ?_) (fun c1 => ?_)
  · refine o_rd (rd_move rfl) trivial rfl ?_
    refine o_pass rfl rfl rfl rfl ?_
    refine o_pass rfl rfl rfl rfl ?_
    refine o_pass rfl rfl rfl rfl ?_
    refine o_rd (rd_pick_t rfl rfl) trivial rfl ?_
    refine runO_nil (run_cond_true rfl (run_seq (run_region_lit ?_)))
    refine o_rd (rd_assign rfl) trivial rfl ?_
    refine runO_nil ?_
    refine run_ret Tryd.func58 (RV.tmp rfl RV.nil) ?_
    -- ret 0 path c1t. L []
    exact ⟨by rw [may_no (by omega)]; rfl, rfl⟩
  · refine o_rd (rd_move rfl) trivial rfl ?_
    refine o_rd (rd_move rfl) rfl rfl ?_
    refine o_rd (rd_lenS T9 rfl) rfl rfl ?_
    refine o_tD (rd_gtr rfl rfl) rfl rfl (fun c2 => ?_) (fun c2 => ?_)
    · refine o_rd (rd_pick_f rfl rfl) trivial rfl ?_
      refine runO_nil (run_cond_true rfl (run_seq (run_region_lit ?_)))
      refine o_rd (rd_assign rfl) trivial rfl ?_
      refine runO_nil ?_
      refine run_ret Tryd.func58 (RV.tmp rfl RV.nil) ?_
      -- ret 1 path c1f.c2t. L []
      exact ⟨by rw [may_no (by omega)]; rfl, rfl⟩
    · refine o_rd (rd_pick_f rfl rfl) trivial rfl ?_
      refine runO_nil (run_cond_false rfl (run_skip (run_seq (run_seq (run_region_lit ?_)))))
      refine o_rd (rd_move rfl) trivial rfl ?_
      refine o_rd (rd_lenS T9 rfl) trivial rfl ?_
      refine o_rd (rd_move rfl) trivial rfl ?_
      refine runO_nil (run_block ?_)
      refine run_loop (σ := Nat) (fun i => [(0, .string name), (14, .int .i64 name.size), (15, .int .i64 (i : Nat))]) (fun i w => w = w0 ∧ i ≤ name.size ∧ (name.data.toList.take i).all mayB = true) (fun i => name.size - i) 0 ?_ (sub_cons rfl (sub_cons rfl (sub_cons rfl (sub_nil _)))) ?_
      · exact ⟨rfl, Nat.zero_le _, by simp⟩
      rintro i w ⟨h1, h0, h2⟩ ih
      refine run_seq (run_region_lit ?_)
      refine o_tD (rd_lss rfl rfl) trivial rfl (fun c3 => ?_) (fun c3 => ?_)
      · refine runO_nil (run_seq (run_cond_true rfl (run_skip (run_seq (run_block (run_seq ?_))))))
        obtain ⟨c, hc⟩ : ∃ c, name.data[i]? = some c := ⟨_, Array.getElem?_eq_getElem (by have : name.data.size = name.size := rfl; omega)⟩
        refine run_region_lit ?_
        refine o_rd (rd_move rfl) trivial rfl ?_
        refine o_rd (rd_assign rfl) trivial rfl ?_
        refine runO_nil (run_seq (run_region_lit ?_))
        refine o_rd (rd_move rfl) trivial rfl ?_
        refine o_rd (rd_move rfl) trivial rfl ?_
        refine o_rd (rd_byte T9 rfl rfl (by omega) hc) trivial rfl ?_
        refine o_rd (rd_assign rfl) trivial rfl ?_
        refine runO_nil (run_block (run_seq (run_seq (run_region_lit ?_))))
        refine o_rd (rd_move rfl) trivial rfl ?_
        refine o_tD (rd_geq rfl rfl) trivial rfl (fun c4 => ?_) (fun c4 => ?_)
        · refine o_rd (rd_move rfl) trivial rfl ?_
          refine o_rd (rd_move rfl) rfl rfl ?_
          refine o_tD (rd_leq rfl rfl) rfl rfl (fun c5 => ?_) (fun c5 => ?_)
          · refine o_rd (rd_pick_t rfl rfl) trivial rfl ?_
            refine o_rd (rd_assign rfl) trivial rfl ?_
            refine runO_nil (run_cond_true rfl (run_skip (run_cond_true rfl (run_skip (run_inBlock (run_inBlock (run_region_lit ?_)))))))
            refine o_rd (rd_addi rfl rfl (by constructor <;> omega)) trivial rfl ?_
            refine o_rd (rd_move rfl) trivial rfl ?_
            refine runO_nil ?_
            -- round of loop 0 path c1f.c2f.L0.c3t.c4t.c5t. L []
            exact run_fewer (sub_cons rfl (sub_cons rfl (sub_cons rfl (sub_nil _)))) (ih (i + 1) w ⟨h1, by omega, may_step hc h2 (by rw [mayB_iff]; omega)⟩ (by omega))
          · refine o_rd (rd_pick_t rfl rfl) trivial rfl ?_
            refine o_rd (rd_assign rfl) trivial rfl ?_
            refine runO_nil (run_cond_false rfl (run_seq (run_region_lit ?_)))
            refine o_rd (rd_move rfl) trivial rfl ?_
            refine o_tD (rd_geq rfl rfl) trivial rfl (fun c6 => ?_) (fun c6 => ?_)
            · refine o_rd (rd_move rfl) trivial rfl ?_
              refine o_rd (rd_move rfl) rfl rfl ?_
              refine o_tD (rd_leq rfl rfl) rfl rfl (fun c7 => ?_) (fun c7 => ?_)
              · refine o_rd (rd_pick_t rfl rfl) trivial rfl ?_
                refine o_rd (rd_assign rfl) trivial rfl ?_
                refine runO_nil (run_cond_true rfl (run_skip (run_cond_true rfl (run_skip (run_inBlock (run_inBlock (run_region_lit ?_)))))))
                refine o_rd (rd_addi rfl rfl (by constructor <;> omega)) trivial rfl ?_
                refine o_rd (rd_move rfl) trivial rfl ?_
                refine runO_nil ?_
                -- round of loop 0 path c1f.c2f.L0.c3t.c4t.c5f.c6t.c7t. L []
                exact run_fewer (sub_cons rfl (sub_cons rfl (sub_cons rfl (sub_nil _)))) (ih (i + 1) w ⟨h1, by omega, may_step hc h2 (by rw [mayB_iff]; omega)⟩ (by omega))
              · refine o_rd (rd_pick_t rfl rfl) trivial rfl ?_
                refine o_rd (rd_assign rfl) trivial rfl ?_
                refine runO_nil (run_cond_false rfl (run_seq (run_region_lit ?_)))
                refine o_rd (rd_move rfl) trivial rfl ?_
                refine o_tD (rd_eql rfl rfl) trivial rfl (fun c8 => ?_) (fun c8 => ?_)
                · refine o_rd (rd_assign rfl) trivial rfl ?_
                  refine runO_nil (run_cond_true rfl (run_skip (run_cond_true rfl (run_skip (run_inBlock (run_inBlock (run_region_lit ?_)))))))
                  refine o_rd (rd_addi rfl rfl (by constructor <;> omega)) trivial rfl ?_
                  refine o_rd (rd_move rfl) trivial rfl ?_
                  refine runO_nil ?_
                  -- round of loop 0 path c1f.c2f.L0.c3t.c4t.c5f.c6t.c7f.c8t. L []
                  exact run_fewer (sub_cons rfl (sub_cons rfl (sub_cons rfl (sub_nil _)))) (ih (i + 1) w ⟨h1, by omega, may_step hc h2 (by rw [mayB_iff]; omega)⟩ (by omega))
                · refine o_rd (rd_assign rfl) trivial rfl ?_
                  refine runO_nil (run_cond_false rfl (run_region_lit ?_))
                  refine o_rd (rd_move rfl) trivial rfl ?_
                  refine o_tD (rd_eql rfl rfl) trivial rfl (fun c9 => ?_) (fun c9 => ?_)
                  · refine o_rd (rd_assign rfl) trivial rfl ?_
                    refine runO_nil (run_cond_true rfl (run_skip (run_inBlock (run_inBlock (run_region_lit ?_)))))
                    refine o_rd (rd_addi rfl rfl (by constructor <;> omega)) trivial rfl ?_
                    refine o_rd (rd_move rfl) trivial rfl ?_
                    refine runO_nil ?_
                    -- round of loop 0 path c1f.c2f.L0.c3t.c4t.c5f.c6t.c7f.c8f.c9t. L []
                    exact run_fewer (sub_cons rfl (sub_cons rfl (sub_cons rfl (sub_nil _)))) (ih (i + 1) w ⟨h1, by omega, may_step hc h2 (by rw [mayB_iff]; omega)⟩ (by omega))
                  · refine o_rd (rd_assign rfl) trivial rfl ?_
                    refine runO_nil (run_cond_false rfl (run_seq (run_region_lit ?_)))
                    refine o_rd (rd_assign rfl) trivial rfl ?_
                    refine runO_nil ?_
                    refine run_ret Tryd.func58 (RV.tmp rfl RV.nil) ?_
                    -- ret 2 path c1f.c2f.L0.c3t.c4t.c5f.c6t.c7f.c8f.c9f. L []
                    exact ⟨by rw [may_bad hc (by rw [mayB_iff]; omega)]; rfl, h1⟩
            · refine o_rd (rd_move rfl) trivial rfl ?_
              refine o_pass rfl rfl rfl rfl ?_
              refine o_pass rfl rfl rfl rfl ?_
              refine o_rd (rd_pick_f rfl rfl) trivial rfl ?_
              refine o_rd (rd_assign rfl) trivial rfl ?_
              refine runO_nil (run_cond_false rfl (run_seq (run_region_lit ?_)))
              refine o_rd (rd_move rfl) trivial rfl ?_
              refine o_tD (rd_eql rfl rfl) trivial rfl (fun c10 => ?_) (fun c10 => ?_)
              · refine o_rd (rd_assign rfl) trivial rfl ?_
                refine runO_nil (run_cond_true rfl (run_skip (run_cond_true rfl (run_skip (run_inBlock (run_inBlock (run_region_lit ?_)))))))
                refine o_rd (rd_addi rfl rfl (by constructor <;> omega)) trivial rfl ?_
                refine o_rd (rd_move rfl) trivial rfl ?_
                refine runO_nil ?_
                -- round of loop 0 path c1f.c2f.L0.c3t.c4t.c5f.c6f.c10t. L []
                exact run_fewer (sub_cons rfl (sub_cons rfl (sub_cons rfl (sub_nil _)))) (ih (i + 1) w ⟨h1, by omega, may_step hc h2 (by rw [mayB_iff]; omega)⟩ (by omega))
              · refine o_rd (rd_assign rfl) trivial rfl ?_
                refine runO_nil (run_cond_false rfl (run_region_lit ?_))
                refine o_rd (rd_move rfl) trivial rfl ?_
                refine o_tD (rd_eql rfl rfl) trivial rfl (fun c11 => ?_) (fun c11 => ?_)
                · refine o_rd (rd_assign rfl) trivial rfl ?_
                  refine runO_nil (run_cond_true rfl (run_skip (run_inBlock (run_inBlock (run_region_lit ?_)))))
                  refine o_rd (rd_addi rfl rfl (by constructor <;> omega)) trivial rfl ?_
                  refine o_rd (rd_move rfl) trivial rfl ?_
                  refine runO_nil ?_
                  -- round of loop 0 path c1f.c2f.L0.c3t.c4t.c5f.c6f.c10f.c11t. L []
                  exact run_fewer (sub_cons rfl (sub_cons rfl (sub_cons rfl (sub_nil _)))) (ih (i + 1) w ⟨h1, by omega, may_step hc h2 (by rw [mayB_iff]; omega)⟩ (by omega))
                · refine o_rd (rd_assign rfl) trivial rfl ?_
                  refine runO_nil (run_cond_false rfl (run_seq (run_region_lit ?_)))
                  refine o_rd (rd_assign rfl) trivial rfl ?_
                  refine runO_nil ?_
                  refine run_ret Tryd.func58 (RV.tmp rfl RV.nil) ?_
                  -- ret 3 path c1f.c2f.L0.c3t.c4t.c5f.c6f.c10f.c11f. L []
                  exact ⟨by rw [may_bad hc (by rw [mayB_iff]; omega)]; rfl, h1⟩
        · refine o_rd (rd_move rfl) trivial rfl ?_
          refine o_pass rfl rfl rfl rfl ?_
          refine o_pass rfl rfl rfl rfl ?_
          refine o_rd (rd_pick_f rfl rfl) trivial rfl ?_
          refine o_rd (rd_assign rfl) trivial rfl ?_
          refine runO_nil (run_cond_false rfl (run_seq (run_region_lit ?_)))
          refine o_rd (rd_move rfl) trivial rfl ?_
          refine o_tD (rd_geq rfl rfl) trivial rfl (fun c12 => ?_) (fun c12 => ?_)
          · refine o_rd (rd_move rfl) trivial rfl ?_
            refine o_rd (rd_move rfl) rfl rfl ?_
            refine o_tD (rd_leq rfl rfl) rfl rfl (fun c13 => ?_) (fun c13 => ?_)
            · refine o_rd (rd_pick_t rfl rfl) trivial rfl ?_
              refine o_rd (rd_assign rfl) trivial rfl ?_
              refine runO_nil (run_cond_true rfl (run_skip (run_cond_true rfl (run_skip (run_inBlock (run_inBlock (run_region_lit ?_)))))))
              refine o_rd (rd_addi rfl rfl (by constructor <;> omega)) trivial rfl ?_
              refine o_rd (rd_move rfl) trivial rfl ?_
              refine runO_nil ?_
              -- round of loop 0 path c1f.c2f.L0.c3t.c4f.c12t.c13t. L []
              exact run_fewer (sub_cons rfl (sub_cons rfl (sub_cons rfl (sub_nil _)))) (ih (i + 1) w ⟨h1, by omega, may_step hc h2 (by rw [mayB_iff]; omega)⟩ (by omega))
            · refine o_rd (rd_pick_t rfl rfl) trivial rfl ?_
              refine o_rd (rd_assign rfl) trivial rfl ?_
              refine runO_nil (run_cond_false rfl (run_seq (run_region_lit ?_)))
              refine o_rd (rd_move rfl) trivial rfl ?_
              refine o_tD (rd_eql rfl rfl) trivial rfl (fun c14 => ?_) (fun c14 => ?_)
              · refine o_rd (rd_assign rfl) trivial rfl ?_
                refine runO_nil (run_cond_true rfl (run_skip (run_cond_true rfl (run_skip (run_inBlock (run_inBlock (run_region_lit ?_)))))))
                refine o_rd (rd_addi rfl rfl (by constructor <;> omega)) trivial rfl ?_
                refine o_rd (rd_move rfl) trivial rfl ?_
                refine runO_nil ?_
                -- round of loop 0 path c1f.c2f.L0.c3t.c4f.c12t.c13f.c14t. L []
                exact run_fewer (sub_cons rfl (sub_cons rfl (sub_cons rfl (sub_nil _)))) (ih (i + 1) w ⟨h1, by omega, may_step hc h2 (by rw [mayB_iff]; omega)⟩ (by omega))
              · refine o_rd (rd_assign rfl) trivial rfl ?_
                refine runO_nil (run_cond_false rfl (run_region_lit ?_))
                refine o_rd (rd_move rfl) trivial rfl ?_
                refine o_tD (rd_eql rfl rfl) trivial rfl (fun c15 => ?_) (fun c15 => ?_)
                · refine o_rd (rd_assign rfl) trivial rfl ?_
                  refine runO_nil (run_cond_true rfl (run_skip (run_inBlock (run_inBlock (run_region_lit ?_)))))
                  refine o_rd (rd_addi rfl rfl (by constructor <;> omega)) trivial rfl ?_
                  refine o_rd (rd_move rfl) trivial rfl ?_
                  refine runO_nil ?_
                  -- round of loop 0 path c1f.c2f.L0.c3t.c4f.c12t.c13f.c14f.c15t. L []
                  exact run_fewer (sub_cons rfl (sub_cons rfl (sub_cons rfl (sub_nil _)))) (ih (i + 1) w ⟨h1, by omega, may_step hc h2 (by rw [mayB_iff]; omega)⟩ (by omega))
                · refine o_rd (rd_assign rfl) trivial rfl ?_
                  refine runO_nil (run_cond_false rfl (run_seq (run_region_lit ?_)))
                  refine o_rd (rd_assign rfl) trivial rfl ?_
                  refine runO_nil ?_
                  refine run_ret Tryd.func58 (RV.tmp rfl RV.nil) ?_
                  -- ret 4 path c1f.c2f.L0.c3t.c4f.c12t.c13f.c14f.c15f. L []
                  exact ⟨by rw [may_bad hc (by rw [mayB_iff]; omega)]; rfl, h1⟩
          · refine o_rd (rd_move rfl) trivial rfl ?_
            refine o_pass rfl rfl rfl rfl ?_
            refine o_pass rfl rfl rfl rfl ?_
            refine o_rd (rd_pick_f rfl rfl) trivial rfl ?_
            refine o_rd (rd_assign rfl) trivial rfl ?_
            refine runO_nil (run_cond_false rfl (run_seq (run_region_lit ?_)))
            refine o_rd (rd_move rfl) trivial rfl ?_
            refine o_tD (rd_eql rfl rfl) trivial rfl (fun c16 => ?_) (fun c16 => ?_)
            · refine o_rd (rd_assign rfl) trivial rfl ?_
              refine runO_nil (run_cond_true rfl (run_skip (run_cond_true rfl (run_skip (run_inBlock (run_inBlock (run_region_lit ?_)))))))
              refine o_rd (rd_addi rfl rfl (by constructor <;> omega)) trivial rfl ?_
              refine o_rd (rd_move rfl) trivial rfl ?_
              refine runO_nil ?_
              -- round of loop 0 path c1f.c2f.L0.c3t.c4f.c12f.c16t. L []
              exact run_fewer (sub_cons rfl (sub_cons rfl (sub_cons rfl (sub_nil _)))) (ih (i + 1) w ⟨h1, by omega, may_step hc h2 (by rw [mayB_iff]; omega)⟩ (by omega))
            · refine o_rd (rd_assign rfl) trivial rfl ?_
              refine runO_nil (run_cond_false rfl (run_region_lit ?_))
              refine o_rd (rd_move rfl) trivial rfl ?_
              refine o_tD (rd_eql rfl rfl) trivial rfl (fun c17 => ?_) (fun c17 => ?_)
              · refine o_rd (rd_assign rfl) trivial rfl ?_
                refine runO_nil (run_cond_true rfl (run_skip (run_inBlock (run_inBlock (run_region_lit ?_)))))
                refine o_rd (rd_addi rfl rfl (by constructor <;> omega)) trivial rfl ?_
                refine o_rd (rd_move rfl) trivial rfl ?_
                refine runO_nil ?_
                -- round of loop 0 path c1f.c2f.L0.c3t.c4f.c12f.c16f.c17t. L []
                exact run_fewer (sub_cons rfl (sub_cons rfl (sub_cons rfl (sub_nil _)))) (ih (i + 1) w ⟨h1, by omega, may_step hc h2 (by rw [mayB_iff]; omega)⟩ (by omega))
              · refine o_rd (rd_assign rfl) trivial rfl ?_
                refine runO_nil (run_cond_false rfl (run_seq (run_region_lit ?_)))
                refine o_rd (rd_assign rfl) trivial rfl ?_
                refine runO_nil ?_
                refine run_ret Tryd.func58 (RV.tmp rfl RV.nil) ?_
                -- ret 5 path c1f.c2f.L0.c3t.c4f.c12f.c16f.c17f. L []
                exact ⟨by rw [may_bad hc (by rw [mayB_iff]; omega)]; rfl, h1⟩
      · refine runO_nil (run_seq (run_cond_false rfl (run_exit rfl (run_seq (run_region_lit ?_)))))
        refine o_rd (rd_assign rfl) trivial rfl ?_
        refine runO_nil ?_
        refine run_ret Tryd.func58 (RV.tmp rfl RV.nil) ?_
        -- ret 6 path c1f.c2f.L0.c3f. L []
        exact ⟨by rw [may_yes (by omega) (by omega) (by omega) h2]; rfl, h1⟩

theorem disk_raw {b m : Nat} {D : DiskV} {w : World} {R R' : List Hp} {f : Nat} {cap : List Value} (hf : ∀ (a : Array Value) (w : World), (callFunc f a).run Tryd.prog w = .ok (.enter f a) w) (h : Sat w (pt b (.cells #[.map (some m), .int .i64 D.writes, .int .i64 D.left, .bool D.cut] 70) :: R))
    (hdo : D.stop = false → ∀ w, Sat w (pt b (.cells #[.map (some m), .int .i64 D.went.writes, .int .i64 D.went.left, .bool D.went.cut] 70) :: R) → FnC Tryd.prog f cap w fun _ w' => Sat w' R') :
    FnC Tryd.prog 59 [(.pointer (some ⟨b, 0, none⟩)), .func (.func f) #[] cap.toArray] w fun v w' => (D.stop = true ∧ v = .int .i64 6 ∧ Sat w' (pt b (.cells #[.map (some m), .int .i64 D.writes, .int .i64 D.left, .bool D.cut] 70) :: R)) ∨ (D.stop = false ∧ v = .int .i64 0 ∧ Sat w' R') := by
  refine fnC_of_run Tryd.func59 rfl Tryd.ntmps59 (Nat.le_of_ble_eq_true rfl) (fun cs => ?_)
  refine run_seq (run_region_lit ?_)
  refine o_rd (rd_assign rfl) trivial rfl ?_
  refine runO_nil (run_seq (run_seq (run_region_lit ?_)))
  refine o_rd (rd_move rfl) trivial rfl ?_
  refine o_rd (rd_nil rfl) trivial rfl ?_
  refine o_rd (rd_fieldA F70_3 S4 rfl) trivial rfl ?_
  refine o_ld rfl (h.at_ 0 rfl) T4 rfl rfl trivial rfl ?_
  refine o_know (b := _) 8 rfl (fun c1 => ?_) (fun c1 => ?_)
  · refine runO_nil (run_cond_true rfl (run_seq (run_seq (run_region_lit ?_))))
    refine o_rd (rd_move rfl) trivial rfl ?_
    refine o_rd (rd_nil rfl) trivial rfl ?_
    refine o_rd (rd_fieldA F70_2 S3 rfl) trivial rfl ?_
    refine o_ld rfl (h.at_ 0 rfl) T3 rfl rfl trivial rfl ?_
    refine o_tD (rd_eql rfl rfl) trivial rfl (fun c2 => ?_) (fun c2 => ?_)
    · refine runO_nil (run_cond_true rfl (run_seq (run_region_lit ?_)))
      refine o_rd (rd_assign rfl) trivial rfl ?_
      refine runO_nil ?_
      refine run_ret Tryd.func59 (RV.tmp rfl RV.nil) ?_
      -- ret 0 path c1t.c2t. L ['d']
      exact .inl ⟨by simp [DiskV.stop, c1, c2], rfl, h⟩
    · refine runO_nil (run_cond_false rfl (run_skip (run_region_lit ?_)))
      refine o_rd (rd_move rfl) trivial rfl ?_
      refine o_rd (rd_nil rfl) trivial rfl ?_
      refine o_rd (rd_fieldA F70_2 S3 rfl) trivial rfl ?_
      refine o_ld rfl (h.at_ 0 rfl) T3 rfl rfl trivial rfl ?_
      refine o_rd (rd_sub rfl rfl) trivial rfl ?_
      refine o_rd (rd_nil rfl) trivial rfl ?_
      refine o_rd (rd_fieldA F70_2 S3 rfl) trivial rfl ?_
      refine o_ef trivial (ef_store S3 0 rfl rfl h rfl rfl rfl (Nat.le_of_ble_eq_true rfl) rfl (fun w h => ?_))
      refine runO_nil (run_seq (run_region_lit ?_))
      refine o_rd (rd_move rfl) trivial rfl ?_
      refine o_rd (rd_nil rfl) trivial rfl ?_
      refine o_rd (rd_fieldA F70_1 S3 rfl) trivial rfl ?_
      refine o_ld rfl (h.at_ 0 rfl) T3 rfl rfl trivial rfl ?_
      refine o_rd (rd_add rfl rfl) trivial rfl ?_
      refine o_rd (rd_nil rfl) trivial rfl ?_
      refine o_rd (rd_fieldA F70_1 S3 rfl) trivial rfl ?_
      refine o_ef trivial (ef_store S3 0 rfl rfl h rfl rfl rfl (Nat.le_of_ble_eq_true rfl) rfl (fun w h => ?_))
      refine runO_nil (run_seq ?_)
      have hs : D.stop = false := by simp [DiskV.stop, *]
      have e : D.went = ⟨D.files, IntKind.i64.wrap (D.writes + 1), if D.cut then IntKind.i64.wrap (D.left - 1) else D.left, D.cut⟩ := rfl
      simp only [c1, if_true, Bool.false_eq_true, if_false] at e
      rw [e] at hdo
      simp only [c1] at h hdo
      refine run_region_lit ?_
      refine o_rd (rd_move rfl) trivial rfl ?_
      refine o_ef trivial (ef_callV rfl hf rfl rfl ?_)
      refine FnC.mono (hdo hs _ h) ?_
      rintro _ w h
      refine runO_nil (run_seq (run_region_lit ?_))
      refine o_rd (rd_assign rfl) trivial rfl ?_
      refine runO_nil ?_
      refine run_ret Tryd.func59 (RV.tmp rfl RV.nil) ?_
      -- ret 1 path c1t.c2f. L ['d']
      exact .inr ⟨hs, rfl, h⟩
  · refine runO_nil (run_cond_false rfl (run_skip (run_seq (run_region_lit ?_))))
    refine o_rd (rd_move rfl) trivial rfl ?_
    refine o_rd (rd_nil rfl) trivial rfl ?_
    refine o_rd (rd_fieldA F70_1 S3 rfl) trivial rfl ?_
    refine o_ld rfl (h.at_ 0 rfl) T3 rfl rfl trivial rfl ?_
    refine o_rd (rd_add rfl rfl) trivial rfl ?_
    refine o_rd (rd_nil rfl) trivial rfl ?_
    refine o_rd (rd_fieldA F70_1 S3 rfl) trivial rfl ?_
    refine o_ef trivial (ef_store S3 0 rfl rfl h rfl rfl rfl (Nat.le_of_ble_eq_true rfl) rfl (fun w h => ?_))
    refine runO_nil (run_seq ?_)
    have hs : D.stop = false := by simp [DiskV.stop, *]
    have e : D.went = ⟨D.files, IntKind.i64.wrap (D.writes + 1), if D.cut then IntKind.i64.wrap (D.left - 1) else D.left, D.cut⟩ := rfl
    simp only [c1, if_true, Bool.false_eq_true, if_false] at e
    rw [e] at hdo
    simp only [c1] at h hdo
    refine run_region_lit ?_
    refine o_rd (rd_move rfl) trivial rfl ?_
    refine o_ef trivial (ef_callV rfl hf rfl rfl ?_)
    refine FnC.mono (hdo hs _ h) ?_
    rintro _ w h
    refine runO_nil (run_seq (run_region_lit ?_))
    refine o_rd (rd_assign rfl) trivial rfl ?_
    refine runO_nil ?_
    refine run_ret Tryd.func59 (RV.tmp rfl RV.nil) ?_
    -- ret 2 path c1f. L ['d']
    exact .inr ⟨hs, rfl, h⟩

theorem disk_Append1 {b m db nb : Nat} {D : DiskV} {kvs : List (ByteArray × Value)} {name : ByteArray} {w : World} {R : List Hp} (h : Sat w (pt b (.cells #[.map (some m), .int .i64 D.writes, .int .i64 D.left, .bool D.cut] 70) :: mapR strK m kvs :: valsR kvs D.files :: pt db (.cells #[(.pointer (some ⟨b, 0, none⟩))] 24) :: pt nb (.cells #[.string name] 9) :: R)) :
    FnC Tryd.prog 60 [.pointer (some ⟨db, 0, none⟩), .pointer (some ⟨nb, 0, none⟩)] w fun v w' => Sat w' (diskR b { D with files := kset D.files name [] } :: pt db (.cells #[(.pointer (some ⟨b, 0, none⟩))] 24) :: pt nb (.cells #[.string name] 9) :: R) := by
  refine fnC_of_run Tryd.func60 rfl Tryd.ntmps60 (Nat.le_of_ble_eq_true rfl) (fun cs => ?_)
  refine run_drawS 5 1 [(0, true), (1, true), (2, true), (3, true), (4, true), (5, false)] [(_, true), (_, true), (_, true), (_, true), (_, true), (_, false)] h (Holds.cons (h.at_ 3 rfl) (Holds.cons (h.at_ 0 rfl) (Holds.cons (h.at_ 4 rfl) (Holds.nil _)))) mixed (by kernel_rfl) rfl ?_
  intro w h hK
  refine d_ld rfl 0 rfl T24 rfl rfl hK trivial rfl ?_
  refine d_rd (rd_nil rfl) hK trivial rfl ?_
  refine d_rd (rd_fieldA F70_0 S68 rfl) hK trivial rfl ?_
  refine d_ld rfl 1 rfl T68 rfl rfl hK trivial rfl ?_
  refine d_ld rfl 2 rfl T9 rfl rfl hK trivial rfl ?_
  refine d_ef trivial (ef_mapUpdate Tryd.underlying68 K9 1 rfl rfl rfl h rfl (fun w h => ?_))
  refine ⟨fun e => absurd rfl e, ?_⟩
  refine d_nil ?_
  refine run_end Tryd.func60 RV.nil ?_
  -- ret 0 path  L ['d', 'm', 'vals', 'db', 'nb']
  replace h := vals_set name (f := []) (Sat.lone (ownS_nil 5 1 none) (Sat.bring 2 h))
  exact diskR_close (Sat.bring 2 (Sat.bring 2 h))

theorem disk_Append2 {b m db nb pb : Nat} {D : DiskV} {kvs : List (ByteArray × Value)} {name : ByteArray} {a : Option Addr} {cap : Nat} {bs : List UInt8} {B : Hp} {w : World} {R : List Hp} (hB : ∀ g, B g → RowH g a (bcells bs)) (hbd : ((kget D.files name).getD []).length + bs.length ≤ 4194304) (h : Sat w (pt b (.cells #[.map (some m), .int .i64 D.writes, .int .i64 D.left, .bool D.cut] 70) :: mapR strK m kvs :: valsR kvs D.files :: pt db (.cells #[(.pointer (some ⟨b, 0, none⟩))] 24) :: pt nb (.cells #[.string name] 9) :: pt pb (.cells #[.slice a bs.length cap] 32) :: B :: R)) :
    FnC Tryd.prog 61 [.pointer (some ⟨db, 0, none⟩), .pointer (some ⟨nb, 0, none⟩), .pointer (some ⟨pb, 0, none⟩)] w fun v w' => Sat w' (diskR b { D with files := kset D.files name ((kget D.files name).getD [] ++ bs) } :: pt db (.cells #[(.pointer (some ⟨b, 0, none⟩))] 24) :: pt nb (.cells #[.string name] 9) :: pt pb (.cells #[.slice a bs.length cap] 32) :: B :: R) := by
  refine fnC_of_run Tryd.func61 rfl Tryd.ntmps61 (Nat.le_of_ble_eq_true rfl) (fun cs => ?_)
  obtain ⟨es1, ck1, hm1, h⟩ := h.mapOpen 1 rfl
  have hz1 := hm1.len
  refine run_drawS 13 1 [(0, true), (1, true), (2, true), (3, true), (4, true), (5, true), (6, true), (7, true), (8, true), (9, true), (10, true), (11, true), (12, false), (13, false)] [(_, true), (_, true), (_, true), (_, true), (_, true), (_, true), (_, true), (_, true), (_, true), (_, true), (_, true), (_, true), (_, false), (_, false)] h (Holds.cons (h.at_ 3 rfl) (Holds.cons (h.at_ 0 rfl) (Holds.cons (h.at_ 4 rfl) (Holds.cons (h.at_ 1 rfl) (Holds.cons (h.at_ 5 rfl) (Holds.nil _)))))) mixed (by kernel_rfl) rfl ?_
  intro w h hK
  refine d_ld rfl 0 rfl T24 rfl rfl hK trivial rfl ?_
  refine d_rd (rd_nil rfl) hK trivial rfl ?_
  refine d_rd (rd_fieldA F70_0 S68 rfl) hK trivial rfl ?_
  refine d_ld rfl 1 rfl T68 rfl rfl hK trivial rfl ?_
  refine d_ld rfl 2 rfl T9 rfl rfl hK trivial rfl ?_
  refine d_ld rfl 0 rfl T24 rfl rfl hK trivial rfl ?_
  refine d_rd (rd_nil rfl) hK trivial rfl ?_
  refine d_rd (rd_fieldA F70_0 S68 rfl) hK trivial rfl ?_
  refine d_ld rfl 1 rfl T68 rfl rfl hK trivial rfl ?_
  refine d_ld rfl 2 rfl T9 rfl rfl hK trivial rfl ?_
  refine d_look1 hm1 K9 Tryd.underlying68 S32 rfl 3 rfl rfl hK trivial rfl ?_
  refine d_ld rfl 4 rfl T32 rfl rfl hK trivial rfl ?_
  have hks := Sat.vkeys 2 h rfl
  replace h := vals_out name (Sat.bring 2 h)
  refine d_ef trivial (ef_append Tryd.underlying32 N32 S5 rfl 0 rfl rfl h rfl (Src.slice (h.rowOf 7 rfl hB) (bcells_len _) (ones_bcells _)) (bcells_len _) rfl (by omega) (by omega) rfl (fun a0 w h => ?_))
  refine ⟨fun _ => (Holds.cons (h.at_ 4 rfl) (Holds.cons (h.at_ 2 rfl) (Holds.cons (h.at_ 5 rfl) (Holds.cons (h.at_ 3 rfl) (Holds.cons (h.at_ 6 rfl) (Holds.nil _)))))), ?_⟩
  replace hK := (Holds.cons (h.at_ 4 rfl) (Holds.cons (h.at_ 2 rfl) (Holds.cons (h.at_ 5 rfl) (Holds.cons (h.at_ 3 rfl) (Holds.cons (h.at_ 6 rfl) (Holds.nil _))))))
  replace h := h.mapClose 3 rfl hm1
  refine d_ef trivial (ef_mapUpdate Tryd.underlying68 K9 3 rfl rfl rfl h rfl (fun w h => ?_))
  refine ⟨fun e => absurd rfl e, ?_⟩
  refine d_nil ?_
  refine run_end Tryd.func61 RV.nil ?_
  -- ret 0 path  L ['o', 'vals', 'd', 'm', 'db', 'nb', 'pb', 'B']
  rw [← bcells_append] at h
  replace h := vals_put name hks h
  exact diskR_close (Sat.bring 2 (Sat.bring 2 h))

theorem disk_Append {b : Nat} {D : DiskV} {name : ByteArray} {a : Option Addr} {cap : Nat} {bs : List UInt8} {B : Hp} {w : World} {R : List Hp} (hB : ∀ g, B g → RowH g a (bcells bs)) (hc : bs.length ≤ cap) (hcm : cap ≤ 9223372036854775807) (h : Sat w (diskR b D :: B :: R)) :
    FnC Tryd.prog 28 [(.pointer (some ⟨b, 0, none⟩)), .string name, .slice a bs.length cap] w fun v w' => v = .int .i64 (D.append name bs).2 ∧ Sat w' (diskR b (D.append name bs).1 :: B :: R) := by
  refine fnC_of_run Tryd.func28 rfl Tryd.ntmps28 (Nat.le_of_ble_eq_true rfl) (fun cs => ?_)
  refine run_seq (run_region_lit ?_)
  refine o_ef trivial (ef_box rfl rfl h (fun db w h => ?_))
  refine o_ef trivial (ef_box rfl rfl h (fun nb w h => ?_))
  refine o_rd (rd_assign rfl) trivial rfl ?_
  refine runO_nil (run_scope (run_seq (run_block (run_seq (run_region_lit ?_)))))
  refine o_ld rfl (h.at_ 1 rfl) T24 rfl rfl trivial rfl ?_
  refine o_rd (rd_eqlP0 T24 rfl rfl) trivial rfl ?_
  refine o_rd (rd_assign rfl) trivial rfl ?_
  refine runO_nil (run_cond_false rfl (run_seq (run_region_lit ?_)))
  refine o_ld rfl (h.at_ 0 rfl) T9 rfl rfl trivial rfl ?_
  refine o_ef trivial (ef_call (Tryd.call58) rfl rfl ?_)
  refine FnC.mono (disk_may) ?_
  rintro _ _ ⟨rfl, rfl⟩
  refine o_know (b := _) 16 rfl (fun c1 => ?_) (fun c1 => ?_)
  · refine o_rd (rd_not rfl) trivial rfl ?_
    refine o_rd (rd_assign rfl) trivial rfl ?_
    refine runO_nil (run_cond_false rfl (run_skip (run_inBlock (run_seq ?_))))
    refine run_cutA 1 (σ := Unit) (fun _ => [(3, .pointer (some ⟨db, 0, none⟩)), (4, .pointer (some ⟨nb, 0, none⟩)), (2, .slice a bs.length cap)]) (fun _ w => Sat w (diskR b D :: pt db (.cells #[(.pointer (some ⟨b, 0, none⟩))] 24) :: pt nb (.cells #[.string name] 9) :: B :: R) ∧ D.append name bs = D.pieces name bs ∧ ((kget D.files name).getD []).length + bs.length ≤ 4194304) ?_ (fun cut1 => ?_)
    · clear h
      rintro _ w ⟨h, hap, hbd⟩
      refine run_seq (run_label (run_seq (run_block ?_)))
      refine run_loop (σ := DiskV × List UInt8 × Option Addr × Nat) (fun (D1, bs1, a1, cap1) => [(3, .pointer (some ⟨db, 0, none⟩)), (4, .pointer (some ⟨nb, 0, none⟩)), (2, .slice a1 bs1.length cap1)]) (fun (D1, bs1, a1, cap1) w => Sat w (diskR b D1 :: pt db (.cells #[(.pointer (some ⟨b, 0, none⟩))] 24) :: pt nb (.cells #[.string name] 9) :: B :: R) ∧ (∀ g, B g → RowH g a1 (bcells bs1)) ∧ bs1.length ≤ cap1 ∧ cap1 ≤ 9223372036854775807 ∧ ((kget D1.files name).getD []).length + bs1.length ≤ 4194304 ∧ D.append name bs = D1.pieces name bs1) (fun (D1, bs1, a1, cap1) => bs1.length) (D, bs, a, cap) ?_ (sub_cons rfl (sub_cons rfl (sub_cons rfl (sub_nil _)))) ?_
      · exact ⟨h, hB, hc, hcm, hbd, hap⟩
      clear h
      rintro ⟨D1, bs1, a1, cap1⟩ w ⟨h, hB, hc, hcm, hbd, hap⟩ ih
      refine run_seq (run_seq (run_region_lit ?_))
      refine o_rd (rd_move rfl) trivial rfl ?_
      refine o_rd (rd_len (u := 0) T32 rfl) trivial rfl ?_
      refine o_tD (rd_gtr rfl rfl) trivial rfl (fun c2 => ?_) (fun c2 => ?_)
      · have hne : bs1 ≠ [] := by intro e; simp [e] at c2
        refine runO_nil (run_cond_true rfl (run_skip (run_block (run_seq (run_region_lit ?_)))))
        refine o_rd (rd_move rfl) trivial rfl ?_
        refine o_rd (rd_move rfl) trivial rfl ?_
        refine o_rd (rd_len (u := 0) T32 rfl) trivial rfl ?_
        refine o_rd (rd_min rfl rfl) trivial rfl ?_
        refine o_rd (Reads.to (v' := .slice a1 (bs1.take 32).length cap1) (rd_sliceH T32 S5 rfl rfl (by omega) (by omega)) (by simp only [List.length_take, Value.slice.injEq, true_and, and_true]; omega)) trivial rfl ?_
        refine o_ef trivial (ef_alloc S32 rfl h (fun pb w h => ?_))
        refine o_ef trivial (ef_store S32 0 rfl rfl h rfl rfl rfl (Nat.le_of_ble_eq_true rfl) rfl (fun w h => ?_))
        refine runO_nil (run_seq (run_region_lit ?_))
        refine o_rd (rd_move rfl) trivial rfl ?_
        refine o_ld rfl (h.at_ 0 rfl) T32 rfl rfl trivial rfl ?_
        refine o_rd (rd_len (u := 0) T32 rfl) trivial rfl ?_
        refine o_rd (Reads.to (v' := .slice (adv a1 (bs1.take 32).length 1 cap1) (bs1.drop 32).length (cap1 - (bs1.take 32).length)) (rd_sliceL T32 S5 rfl rfl (by omega) (by simp only [List.length_take]; omega)) (by simp only [List.length_take, List.length_drop, Int.toNat_natCast, Value.slice.injEq, true_and, and_true]; omega)) trivial rfl ?_
        refine o_rd (rd_assign rfl) trivial rfl ?_
        refine runO_nil (run_seq (run_seq ?_))
        obtain ⟨m, kvs, h⟩ := diskR_open (Sat.bring 1 h)
        refine run_region_lit ?_
        refine o_ld rfl (h.at_ 4 rfl) T24 rfl rfl trivial rfl ?_
        refine o_rd (rd_funcL rfl) trivial rfl ?_
        refine o_ef trivial (ef_call (Tryd.call59) rfl rfl ?_)
        refine FnC.mono (disk_raw Tryd.call61 (cap := [.pointer (some ⟨db, 0, none⟩), .pointer (some ⟨nb, 0, none⟩), .pointer (some ⟨pb, 0, none⟩)]) (Sat.bring 6 (Sat.bring 6 (Sat.bring 6 (Sat.bring 6 (Sat.bring 6 (Sat.bring 4 (Sat.bring 6 h))))))) (fun _ w h => disk_Append2 (fun g x => row_take 32 (hB g x)) (by simp only [List.length_take, DiskV.went]; omega) h)) ?_
        rintro _ w (⟨hs, rfl, h⟩ | ⟨hs, rfl, h⟩)
        · refine o_rd (rd_assign rfl) trivial rfl ?_
          refine runO_nil (run_seq (run_region_lit ?_))
          refine o_rd (rd_move rfl) trivial rfl ?_
          refine o_rd (rd_neq rfl rfl) trivial rfl ?_
          refine runO_nil (run_cond_true rfl (run_seq (run_region_lit ?_)))
          refine o_rd (rd_move rfl) trivial rfl ?_
          refine o_rd (rd_assign rfl) trivial rfl ?_
          refine runO_nil ?_
          refine run_ret Tryd.func28 (RV.tmp rfl RV.nil) ?_
          -- ret 0 path c1t.K.L0.c2t.A0. L ['d', 'm', 'vals', 'db', 'nb', 'pb', 'B']
          rw [hap, pieces_stop hne hs]
          exact ⟨rfl, diskR_close (Sat.out 3 (Sat.out 4 (Sat.out 5 h)))⟩
        · refine o_rd (rd_assign rfl) trivial rfl ?_
          refine runO_nil (run_seq (run_region_lit ?_))
          refine o_rd (rd_move rfl) trivial rfl ?_
          refine o_rd (rd_neq rfl rfl) trivial rfl ?_
          refine runO_nil (run_cond_false rfl (run_skip (run_exit rfl ?_)))
          -- round of loop 0 path c1t.K.L0.c2t.A1. L ['D', 'db', 'nb', 'pb', 'B']
          exact run_fewer (sub_cons rfl (sub_cons rfl (sub_cons rfl (sub_nil _)))) (ih ({ D1.went with files := kset D1.files name ((kget D1.files name).getD [] ++ bs1.take 32) }, bs1.drop 32, _, _) w ⟨(Sat.out 3 h), fun g x => row_drop 32 (hB g x) hc, by simp only [List.length_take, List.length_drop]; omega, by omega, by rw [kget_kset]; simp only [if_true, Option.getD_some, List.length_append, List.length_take, List.length_drop]; omega, hap.trans (pieces_go hne hs)⟩ (by simp only [List.length_drop]; omega))
      · refine runO_nil (run_cond_false rfl (run_exit rfl (run_seq (run_region_lit ?_))))
        refine o_rd (rd_assign rfl) trivial rfl ?_
        refine runO_nil ?_
        refine run_ret Tryd.func28 (RV.tmp rfl RV.nil) ?_
        -- ret 1 path c1t.K.L0.c2f. L ['D', 'db', 'nb', 'B']
        have e : bs1 = [] := by cases bs1 with | nil => rfl | cons => simp at c2
        subst e
        rw [hap, pieces_nil]
        exact ⟨rfl, (Sat.out 1 (Sat.out 2 h))⟩
    obtain ⟨m, kvs, h⟩ := diskR_open (Sat.bring 2 h)
    have hks := len_of_keys (Sat.vkeys 2 h rfl)
    have his := kget_of_keys (Sat.vkeys 2 h rfl) name
    obtain ⟨a0, l0, cp0, e0, hl0, hc0, hm0, hr0⟩ := Sat.valsAt name 2 h rfl
    obtain ⟨es3, ck3, hm3, h⟩ := h.mapOpen 1 rfl
    have hz3 := hm3.len
    refine run_drawS 10 1 [(0, true), (1, true), (2, true), (3, true), (4, true), (5, true), (6, true), (7, true), (8, true), (9, false), (10, false)] [(_, true), (_, true), (_, true), (_, true), (_, true), (_, true), (_, true), (_, true), (_, true), (_, false), (_, false)] h (Holds.cons (h.at_ 4 rfl) (Holds.cons (h.at_ 0 rfl) (Holds.cons (h.at_ 3 rfl) (Holds.cons (h.at_ 1 rfl) (Holds.nil _))))) mixed (by kernel_rfl) rfl ?_
    intro w h hK
    refine d_ld rfl 0 rfl T24 rfl rfl hK trivial rfl ?_
    refine d_rd (rd_nil rfl) hK trivial rfl ?_
    refine d_rd (rd_fieldA F70_0 S68 rfl) hK trivial rfl ?_
    refine d_ld rfl 1 rfl T68 rfl rfl hK trivial rfl ?_
    refine d_ld rfl 2 rfl T9 rfl rfl hK trivial rfl ?_
    refine d_look2 hm3 K9 Tryd.underlying68 S32 rfl 3 rfl rfl hK trivial rfl ?_
    refine d_rd (rd_move rfl) hK trivial rfl ?_
    refine d_rd (rd_extract rfl rfl) hK trivial rfl ?_
    refine d_test (rd_extract rfl rfl) hK trivial rfl (fun c4 => ?_) (fun c4 => ?_)
    · rw [his] at c4
      obtain ⟨f, hf⟩ := Option.isSome_iff_exists.1 c4
      rw [hf] at hl0
      simp only [Option.getD_some] at hl0
      refine d_rd0 (rd_assign rfl) hK trivial rfl ?_
      refine d_rd0 (rd_assign rfl) hK trivial rfl ?_
      refine d_nil ?_
      replace h := h.mapClose 1 rfl hm3
      refine run_seq (run_block (run_seq (run_seq ?_)))
      obtain ⟨es5, ck5, hm5, h⟩ := h.mapOpen 1 rfl
      have hz5 := hm5.len
      refine run_region_lit ?_
      refine o_rd (rd_move rfl) trivial rfl ?_
      refine o_rd (rd_not rfl) trivial rfl ?_
      refine o_rd (rd_move rfl) trivial rfl ?_
      refine o_pass rfl rfl rfl rfl ?_
      refine o_pass rfl rfl rfl rfl ?_
      refine o_pass rfl rfl rfl rfl ?_
      refine o_pass rfl rfl rfl rfl ?_
      refine o_pass rfl rfl rfl rfl ?_
      refine o_pass rfl rfl rfl rfl ?_
      refine o_rd (rd_pick_f rfl rfl) trivial rfl ?_
      refine o_rd (rd_assign rfl) trivial rfl ?_
      refine runO_nil ?_
      replace h := h.mapClose 1 rfl hm5
      refine run_cond_false rfl (run_region_lit ?_)
      refine o_rd (rd_move rfl) trivial rfl ?_
      refine o_rd (rd_len (u := 0) T32 rfl) trivial rfl ?_
      refine o_rd (rd_move rfl) trivial rfl ?_
      refine o_rd (rd_len (u := 0) T32 (congrArg some e0)) trivial rfl ?_
      refine o_rd (rd_subi rfl rfl (by constructor <;> omega)) trivial rfl ?_
      refine o_tD (rd_gtr rfl rfl) trivial rfl (fun c6 => ?_) (fun c6 => ?_)
      · refine o_rd (rd_assign rfl) trivial rfl ?_
        refine runO_nil (run_cond_true rfl (run_seq (run_region_lit ?_)))
        refine o_rd (rd_assign rfl) trivial rfl ?_
        refine runO_nil ?_
        refine run_ret Tryd.func28 (RV.tmp rfl RV.nil) ?_
        -- ret 2 path c1t.c4t.c6t. L ['d', 'm', 'vals', 'nb', 'db', 'B']
        rw [append_long c1 hf (by omega)]
        exact ⟨rfl, diskR_close (Sat.out 3 (Sat.out 4 h))⟩
      · refine o_rd (rd_assign rfl) trivial rfl ?_
        refine runO_nil (run_cond_false rfl (run_seq (run_region_lit ?_)))
        refine o_rd (rd_move rfl) trivial rfl ?_
        refine o_rd (rd_len (u := 0) T32 rfl) trivial rfl ?_
        refine o_tD (rd_eql rfl rfl) trivial rfl (fun c7 => ?_) (fun c7 => ?_)
        · refine o_rd (rd_move rfl) trivial rfl ?_
          refine o_rd (rd_move rfl) rfl rfl ?_
          refine o_rd (rd_not rfl) rfl rfl ?_
          refine o_rd (rd_pick_t rfl rfl) trivial rfl ?_
          refine o_rd (rd_assign rfl) trivial rfl ?_
          refine runO_nil (run_cond_false rfl (run_skip (run_inBlock ?_)))
          -- cut region 5 path c1t.c4t.c6f.c7t. L ['d', 'm', 'vals', 'nb', 'db', 'B']
          exact run_fewer (sub_cons rfl (sub_cons rfl (sub_cons rfl (sub_nil _)))) (cut1 () w ⟨diskR_close (Sat.bring 5 (Sat.bring 5 (Sat.bring 5 (Sat.bring 5 (Sat.bring 4 (Sat.bring 5 h)))))), append_go c1 hf (by omega), by rw [hf]; simp only [Option.getD_some]; omega⟩)
        · refine o_rd (rd_move rfl) trivial rfl ?_
          refine o_pass rfl rfl rfl rfl ?_
          refine o_pass rfl rfl rfl rfl ?_
          refine o_rd (rd_pick_f rfl rfl) trivial rfl ?_
          refine o_rd (rd_assign rfl) trivial rfl ?_
          refine runO_nil (run_cond_false rfl (run_skip (run_inBlock ?_)))
          -- cut region 5 path c1t.c4t.c6f.c7f. L ['d', 'm', 'vals', 'nb', 'db', 'B']
          exact run_fewer (sub_cons rfl (sub_cons rfl (sub_cons rfl (sub_nil _)))) (cut1 () w ⟨diskR_close (Sat.bring 5 (Sat.bring 5 (Sat.bring 5 (Sat.bring 5 (Sat.bring 4 (Sat.bring 5 h)))))), append_go c1 hf (by omega), by rw [hf]; simp only [Option.getD_some]; omega⟩)
    · rw [his] at c4
      have hf : kget D.files name = none := by simpa using c4
      rw [hf] at hl0
      simp only [Option.getD_none, List.length_nil] at hl0
      refine d_rd0 (rd_assign rfl) hK trivial rfl ?_
      refine d_rd0 (rd_assign rfl) hK trivial rfl ?_
      refine d_nil ?_
      replace h := h.mapClose 1 rfl hm3
      refine run_seq (run_block (run_seq (run_seq ?_)))
      obtain ⟨es8, ck8, hm8, h⟩ := h.mapOpen 1 rfl
      have hz8 := hm8.len
      refine run_region_lit ?_
      refine o_rd (rd_move rfl) trivial rfl ?_
      refine o_rd (rd_not rfl) trivial rfl ?_
      refine o_rd (rd_move rfl) trivial rfl ?_
      refine o_ld rfl (h.at_ 4 rfl) T24 rfl rfl rfl rfl ?_
      refine o_rd (rd_nil rfl) rfl rfl ?_
      refine o_rd (rd_fieldA F70_0 S68 rfl) rfl rfl ?_
      refine o_ld rfl (h.at_ 0 rfl) T68 rfl rfl rfl rfl ?_
      refine o_lenM rfl (h.at_ 1 rfl) T68 rfl rfl ?_
      refine o_tD (rd_eql rfl rfl) rfl rfl (fun c9 => ?_) (fun c9 => ?_)
      · refine o_rd (rd_pick_t rfl rfl) trivial rfl ?_
        refine o_rd (rd_assign rfl) trivial rfl ?_
        refine runO_nil ?_
        replace h := h.mapClose 1 rfl hm8
        refine run_cond_true rfl (run_skip (run_cond_true rfl (run_seq (run_region_lit ?_))))
        refine o_rd (rd_assign rfl) trivial rfl ?_
        refine runO_nil ?_
        refine run_ret Tryd.func28 (RV.tmp rfl RV.nil) ?_
        -- ret 3 path c1t.c4f.c9t. L ['d', 'm', 'vals', 'nb', 'db', 'B']
        rw [append_full c1 hf (by omega)]
        exact ⟨rfl, diskR_close (Sat.out 3 (Sat.out 4 h))⟩
      · refine o_rd (rd_pick_t rfl rfl) trivial rfl ?_
        refine o_rd (rd_assign rfl) trivial rfl ?_
        refine runO_nil ?_
        replace h := h.mapClose 1 rfl hm8
        refine run_cond_false rfl (run_region_lit ?_)
        refine o_rd (rd_move rfl) trivial rfl ?_
        refine o_rd (rd_len (u := 0) T32 rfl) trivial rfl ?_
        refine o_rd (rd_move rfl) trivial rfl ?_
        refine o_rd (rd_len (u := 0) T32 (congrArg some e0)) trivial rfl ?_
        refine o_rd (rd_subi rfl rfl (by constructor <;> omega)) trivial rfl ?_
        refine o_tD (rd_gtr rfl rfl) trivial rfl (fun c10 => ?_) (fun c10 => ?_)
        · refine o_rd (rd_assign rfl) trivial rfl ?_
          refine runO_nil (run_cond_true rfl (run_seq (run_region_lit ?_)))
          refine o_rd (rd_assign rfl) trivial rfl ?_
          refine runO_nil ?_
          refine run_ret Tryd.func28 (RV.tmp rfl RV.nil) ?_
          -- ret 4 path c1t.c4f.c9f.c10t. L ['d', 'm', 'vals', 'nb', 'db', 'B']
          rw [append_over c1 hf (by omega)]
          exact ⟨rfl, diskR_close (Sat.out 3 (Sat.out 4 h))⟩
        · refine o_rd (rd_assign rfl) trivial rfl ?_
          refine runO_nil (run_cond_false rfl (run_seq (run_region_lit ?_)))
          refine o_rd (rd_move rfl) trivial rfl ?_
          refine o_rd (rd_len (u := 0) T32 rfl) trivial rfl ?_
          refine o_tD (rd_eql rfl rfl) trivial rfl (fun c11 => ?_) (fun c11 => ?_)
          · refine o_rd (rd_move rfl) trivial rfl ?_
            refine o_rd (rd_move rfl) rfl rfl ?_
            refine o_rd (rd_not rfl) rfl rfl ?_
            refine o_rd (rd_pick_t rfl rfl) trivial rfl ?_
            refine o_rd (rd_assign rfl) trivial rfl ?_
            refine runO_nil (run_cond_true rfl (run_seq (run_region_lit ?_)))
            refine o_ld rfl (h.at_ 4 rfl) T24 rfl rfl trivial rfl ?_
            refine o_rd (rd_funcL rfl) trivial rfl ?_
            refine o_ef trivial (ef_call (Tryd.call59) rfl rfl ?_)
            refine FnC.mono (disk_raw Tryd.call60 (cap := [.pointer (some ⟨db, 0, none⟩), .pointer (some ⟨nb, 0, none⟩)]) (Sat.bring 4 (Sat.bring 4 (Sat.bring 4 (Sat.bring 4 (Sat.bring 3 h))))) (fun _ w h => disk_Append1 h)) ?_
            rintro _ w (⟨hs, rfl, h⟩ | ⟨hs, rfl, h⟩)
            · refine o_rd (rd_assign rfl) trivial rfl ?_
              refine runO_nil ?_
              refine run_ret Tryd.func28 (RV.tmp rfl RV.nil) ?_
              -- ret 5 path c1t.c4f.c9f.c10f.c11t.A0. L ['d', 'm', 'vals', 'db', 'nb', 'B']
              rw [append_none c1 hf (by omega) (List.length_eq_zero_iff.1 (by omega)), raw_stop hs]
              exact ⟨rfl, diskR_close (Sat.out 3 (Sat.out 4 h))⟩
            · refine o_rd (rd_assign rfl) trivial rfl ?_
              refine runO_nil ?_
              refine run_ret Tryd.func28 (RV.tmp rfl RV.nil) ?_
              -- ret 6 path c1t.c4f.c9f.c10f.c11t.A1. L ['D', 'db', 'nb', 'B']
              rw [append_none c1 hf (by omega) (List.length_eq_zero_iff.1 (by omega)), raw_go hs]
              exact ⟨rfl, (Sat.out 1 (Sat.out 2 h))⟩
          · refine o_rd (rd_move rfl) trivial rfl ?_
            refine o_pass rfl rfl rfl rfl ?_
            refine o_pass rfl rfl rfl rfl ?_
            refine o_rd (rd_pick_f rfl rfl) trivial rfl ?_
            refine o_rd (rd_assign rfl) trivial rfl ?_
            refine runO_nil (run_cond_false rfl (run_skip (run_inBlock ?_)))
            -- cut region 5 path c1t.c4f.c9f.c10f.c11f. L ['d', 'm', 'vals', 'nb', 'db', 'B']
            exact run_fewer (sub_cons rfl (sub_cons rfl (sub_cons rfl (sub_nil _)))) (cut1 () w ⟨diskR_close (Sat.bring 5 (Sat.bring 5 (Sat.bring 5 (Sat.bring 5 (Sat.bring 4 (Sat.bring 5 h)))))), append_new c1 hf (by omega) (by omega) (by intro e; simp [e] at c11), by rw [hf]; simp only [Option.getD_none, List.length_nil]; omega⟩)
  · refine o_rd (rd_not rfl) trivial rfl ?_
    refine o_rd (rd_assign rfl) trivial rfl ?_
    refine runO_nil (run_cond_true rfl (run_seq (run_region_lit ?_)))
    refine o_rd (rd_assign rfl) trivial rfl ?_
    refine runO_nil ?_
    refine run_ret Tryd.func28 (RV.tmp rfl RV.nil) ?_
    -- ret 7 path c1f. L ['nb', 'db', 'D', 'B']
    rw [append_bad (by rw [c1]; exact Bool.false_ne_true)]
    exact ⟨rfl, (Sat.out 0 (Sat.out 1 h))⟩

theorem clone_bytes {B : Hp} {a : Option Addr} {cap : Nat} {bs : List UInt8} {w : World} {R : List Hp} (hB : ∀ g, B g → RowH g a (bcells bs)) (hbd : bs.length ≤ 140737488355328) (h : Sat w (B :: R)) :
    FnC Tryd.prog 30 [.slice a bs.length cap] w fun v w' => ∃ a' n c, v = .slice a' n c ∧ Sat w' (OwnS 5 1 (.slice a' n c) (bcells bs) :: B :: R) := by
  refine fnC_of_run Tryd.func30 rfl Tryd.ntmps30 (Nat.le_of_ble_eq_true rfl) (fun cs => ?_)
  refine run_seq (run_region_lit ?_)
  refine o_rd (rd_assign rfl) trivial rfl ?_
  refine runO_nil (run_seq (run_seq (run_region_lit ?_)))
  refine o_rd (rd_move rfl) trivial rfl ?_
  refine o_test (rd_eqlL0 T32 rfl rfl) trivial rfl (fun c1 => ?_) (fun c1 => ?_)
  · refine runO_nil (run_cond_true rfl (run_seq (run_region_lit ?_)))
    refine o_rd (rd_assign rfl) trivial rfl ?_
    refine runO_nil ?_
    refine run_ret Tryd.func30 (RV.tmp rfl RV.nil) ?_
    -- ret 0 path c1t. L ['B']
    have e : bs = [] := by
      obtain ⟨g, _, x⟩ := SatH.get 0 h rfl
      rcases hB g x with e | ⟨b, o, C, E, fr, e, _⟩
      · simpa [bcells] using e
      · rw [e] at c1; cases c1
    subst e
    exact ⟨none, 0, 0, rfl, Sat.lone (own_none none) h⟩
  · refine runO_nil (run_cond_false rfl (run_skip (run_seq (run_region_lit ?_))))
    refine o_ef trivial (ef_slice0 Tryd.underlying32 S5 h rfl (fun s1 w h => ?_))
    refine o_rd (rd_move rfl) trivial rfl ?_
    refine o_ef trivial (ef_append Tryd.underlying32 N32 S5 rfl 0 rfl rfl h rfl (Src.slice (h.rowOf 1 rfl hB) (bcells_len _) (ones_bcells _)) (q := 0) rfl rfl (by omega) (by omega) rfl (fun a3 w h => ?_))
    refine o_rd (rd_assign rfl) trivial rfl ?_
    refine runO_nil ?_
    refine run_ret Tryd.func30 (RV.tmp rfl RV.nil) ?_
    -- ret 1 path c1f. L ['s1', 'B']
    obtain ⟨a2, n2, c2, rfl, hl2, _⟩ := Sat.ownRow 0 h rfl
    exact ⟨a2, n2, c2, rfl, h⟩

theorem disk_Truncate1 {b m db nb tb ib : Nat} {D : DiskV} {kvs : List (ByteArray × Value)} {name : ByteArray} {a0 : Option Addr} {l0 cp0 : Nat} {n : Int} {f : List UInt8} {w : World} {R : List Hp} (e0 : (kget kvs name).getD (.slice none 0 0) = .slice a0 l0 cp0) (hf : kget D.files name = some f) (h0 : 0 ≤ n) (h1 : n ≤ f.length) (h2 : f.length ≤ cp0) (h3 : f.length ≤ 140737488355328) (h : Sat w (pt b (.cells #[.map (some m), .int .i64 D.writes, .int .i64 D.left, .bool D.cut] 70) :: mapR strK m kvs :: valsR kvs D.files :: pt db (.cells #[(.pointer (some ⟨b, 0, none⟩))] 24) :: pt nb (.cells #[.string name] 9) :: pt tb (.cells #[.slice a0 l0 cp0] 32) :: pt ib (.cells #[.int .i64 n] 3) :: R)) :
    FnC Tryd.prog 68 [.pointer (some ⟨tb, 0, none⟩), .pointer (some ⟨ib, 0, none⟩), .pointer (some ⟨db, 0, none⟩), .pointer (some ⟨nb, 0, none⟩)] w fun v w' => Sat w' (diskR b { D with files := kset D.files name (f.take n.toNat) } :: pt db (.cells #[(.pointer (some ⟨b, 0, none⟩))] 24) :: pt nb (.cells #[.string name] 9) :: pt tb (.cells #[.slice a0 l0 cp0] 32) :: pt ib (.cells #[.int .i64 n] 3) :: R) := by
  refine fnC_of_run Tryd.func68 rfl Tryd.ntmps68 (Nat.le_of_ble_eq_true rfl) (fun cs => ?_)
  refine run_drawS 9 1 [(0, true), (1, true), (2, true), (3, true), (4, true), (5, true), (6, true), (7, true), (8, false), (9, false)] [(_, true), (_, true), (_, true), (_, true), (_, true), (_, true), (_, true), (_, true), (_, false), (_, false)] h (Holds.cons (h.at_ 3 rfl) (Holds.cons (h.at_ 0 rfl) (Holds.cons (h.at_ 4 rfl) (Holds.cons (h.at_ 5 rfl) (Holds.cons (h.at_ 6 rfl) (Holds.nil _)))))) mixed (by kernel_rfl) rfl ?_
  intro w h hK
  refine d_ld rfl 0 rfl T24 rfl rfl hK trivial rfl ?_
  refine d_rd (rd_nil rfl) hK trivial rfl ?_
  refine d_rd (rd_fieldA F70_0 S68 rfl) hK trivial rfl ?_
  refine d_ld rfl 1 rfl T68 rfl rfl hK trivial rfl ?_
  refine d_ld rfl 2 rfl T9 rfl rfl hK trivial rfl ?_
  refine d_ld rfl 3 rfl T32 rfl rfl hK trivial rfl ?_
  refine d_ld rfl 4 rfl T3 rfl rfl hK trivial rfl ?_
  refine d_rd (Reads.to (v' := .slice a0 (f.take n.toNat).length cp0) (rd_sliceH T32 S5 rfl rfl (by omega) (by omega)) (by simp only [List.length_take, Value.slice.injEq, true_and, and_true]; omega)) hK trivial rfl ?_
  refine d_ef trivial (ef_call (Tryd.call30) rfl rfl ?_)
  refine FnC.mono (clone_bytes (fun g x => row_take n.toNat (Option.getD_some (a := f) (b := []) ▸ hf ▸ vals_row e0 g x)) (by simp only [List.length_take]; omega) (Sat.bring 2 h)) ?_
  rintro _ w ⟨a2, n2, c2, rfl, h⟩
  refine ⟨fun _ => (Holds.cons (h.at_ 4 rfl) (Holds.cons (h.at_ 2 rfl) (Holds.cons (h.at_ 5 rfl) (Holds.cons (h.at_ 6 rfl) (Holds.cons (h.at_ 7 rfl) (Holds.nil _)))))), ?_⟩
  replace hK := (Holds.cons (h.at_ 4 rfl) (Holds.cons (h.at_ 2 rfl) (Holds.cons (h.at_ 5 rfl) (Holds.cons (h.at_ 6 rfl) (Holds.cons (h.at_ 7 rfl) (Holds.nil _))))))
  refine d_ef trivial (ef_mapUpdate Tryd.underlying68 K9 3 rfl rfl rfl h rfl (fun w h => ?_))
  refine ⟨fun e => absurd rfl e, ?_⟩
  refine d_nil ?_
  refine run_end Tryd.func68 RV.nil ?_
  -- ret 0 path  L ['o', 'vals', 'd', 'm', 'db', 'nb', 'tb', 'ib']
  replace h := vals_set name h
  exact diskR_close (Sat.bring 2 (Sat.bring 2 h))

theorem disk_Remove1 {b m db nb : Nat} {D : DiskV} {kvs : List (ByteArray × Value)} {name : ByteArray} {w : World} {R : List Hp} (h : Sat w (pt b (.cells #[.map (some m), .int .i64 D.writes, .int .i64 D.left, .bool D.cut] 70) :: mapR strK m kvs :: valsR kvs D.files :: pt db (.cells #[(.pointer (some ⟨b, 0, none⟩))] 24) :: pt nb (.cells #[.string name] 9) :: R)) :
    FnC Tryd.prog 71 [.pointer (some ⟨db, 0, none⟩), .pointer (some ⟨nb, 0, none⟩)] w fun v w' => Sat w' (diskR b { D with files := kdel D.files name } :: pt db (.cells #[(.pointer (some ⟨b, 0, none⟩))] 24) :: pt nb (.cells #[.string name] 9) :: R) := by
  refine fnC_of_run Tryd.func71 rfl Tryd.ntmps71 (Nat.le_of_ble_eq_true rfl) (fun cs => ?_)
  refine run_drawS 5 4 [(0, true), (1, true), (2, true), (3, true), (4, true), (5, false)] [(_, true), (_, true), (_, true), (_, true), (_, true), (_, false)] h (Holds.cons (h.at_ 3 rfl) (Holds.cons (h.at_ 0 rfl) (Holds.cons (h.at_ 4 rfl) (Holds.nil _)))) mixed (by kernel_rfl) rfl ?_
  intro w h hK
  refine d_ld rfl 0 rfl T24 rfl rfl hK trivial rfl ?_
  refine d_rd (rd_nil rfl) hK trivial rfl ?_
  refine d_rd (rd_fieldA F70_0 S68 rfl) hK trivial rfl ?_
  refine d_ld rfl 1 rfl T68 rfl rfl hK trivial rfl ?_
  refine d_ld rfl 2 rfl T9 rfl rfl hK trivial rfl ?_
  refine d_ef trivial (ef_delete Tryd.underlying68 K9 1 rfl rfl h rfl (fun w h => ?_))
  refine ⟨fun e => absurd rfl e, ?_⟩
  refine d_nil ?_
  refine run_end Tryd.func71 RV.nil ?_
  -- ret 0 path  L ['d', 'm', 'vals', 'db', 'nb']
  replace h := vals_del name (Sat.bring 2 h)
  exact diskR_close (Sat.bring 2 (Sat.bring 2 h))

theorem disk_Rename1 {b m db nb tb to : Nat} {D : DiskV} {kvs : List (ByteArray × Value)} {name dst : ByteArray} {a0 : Option Addr} {l0 cp0 : Nat} {f : List UInt8} {w : World} {R : List Hp} (e0 : (kget kvs name).getD (.slice none 0 0) = .slice a0 l0 cp0) (hf : kget D.files name = some f) (h : Sat w (pt b (.cells #[.map (some m), .int .i64 D.writes, .int .i64 D.left, .bool D.cut] 70) :: mapR strK m kvs :: valsR kvs D.files :: pt db (.cells #[(.pointer (some ⟨b, 0, none⟩))] 24) :: pt nb (.cells #[.string name] 9) :: pt tb (.cells #[.slice a0 l0 cp0] 32) :: pt to (.cells #[.string dst] 9) :: R)) :
    FnC Tryd.prog 69 [.pointer (some ⟨db, 0, none⟩), .pointer (some ⟨nb, 0, none⟩), .pointer (some ⟨tb, 0, none⟩), .pointer (some ⟨to, 0, none⟩)] w fun v w' => Sat w' (diskR b { D with files := kset (kdel D.files name) dst f } :: pt db (.cells #[(.pointer (some ⟨b, 0, none⟩))] 24) :: pt nb (.cells #[.string name] 9) :: pt tb (.cells #[.slice a0 l0 cp0] 32) :: pt to (.cells #[.string dst] 9) :: R) := by
  replace h := vals_out name (Sat.bring 2 h)
  rw [e0, hf] at h
  replace h := Sat.bring 3 (Sat.bring 3 h)
  refine fnC_of_run Tryd.func69 rfl Tryd.ntmps69 (Nat.le_of_ble_eq_true rfl) (fun cs => ?_)
  refine run_seq ?_
  refine run_drawS 5 4 [(0, true), (1, true), (2, true), (3, true), (4, true), (5, false)] [(_, true), (_, true), (_, true), (_, true), (_, true), (_, false)] h (Holds.cons (h.at_ 4 rfl) (Holds.cons (h.at_ 0 rfl) (Holds.cons (h.at_ 5 rfl) (Holds.nil _)))) mixed (by kernel_rfl) rfl ?_
  intro w h hK
  refine d_ld rfl 0 rfl T24 rfl rfl hK trivial rfl ?_
  refine d_rd (rd_nil rfl) hK trivial rfl ?_
  refine d_rd (rd_fieldA F70_0 S68 rfl) hK trivial rfl ?_
  refine d_ld rfl 1 rfl T68 rfl rfl hK trivial rfl ?_
  refine d_ld rfl 2 rfl T9 rfl rfl hK trivial rfl ?_
  refine d_ef trivial (ef_delete Tryd.underlying68 K9 1 rfl rfl h rfl (fun w h => ?_))
  refine ⟨fun e => absurd rfl e, ?_⟩
  refine d_nil ?_
  refine run_drawS 6 1 [(0, true), (1, true), (2, true), (3, true), (4, true), (5, true), (6, false)] [(_, true), (_, true), (_, true), (_, true), (_, true), (_, true), (_, false)] h (Holds.cons (h.at_ 4 rfl) (Holds.cons (h.at_ 0 rfl) (Holds.cons (h.at_ 7 rfl) (Holds.cons (h.at_ 6 rfl) (Holds.nil _))))) mixed (by kernel_rfl) rfl ?_
  intro w h hK
  refine d_ld rfl 0 rfl T24 rfl rfl hK trivial rfl ?_
  refine d_rd (rd_nil rfl) hK trivial rfl ?_
  refine d_rd (rd_fieldA F70_0 S68 rfl) hK trivial rfl ?_
  refine d_ld rfl 1 rfl T68 rfl rfl hK trivial rfl ?_
  refine d_ld rfl 2 rfl T9 rfl rfl hK trivial rfl ?_
  refine d_ld rfl 3 rfl T32 rfl rfl hK trivial rfl ?_
  refine d_ef trivial (ef_mapUpdate Tryd.underlying68 K9 1 rfl rfl rfl h rfl (fun w h => ?_))
  refine ⟨fun e => absurd rfl e, ?_⟩
  refine d_nil ?_
  refine run_end Tryd.func69 RV.nil ?_
  -- ret 0 path  L ['d', 'm', 'o', 'vals', 'db', 'nb', 'tb', 'to']
  replace h := vals_set dst (Sat.bring 7 (Sat.bring 7 (Sat.bring 5 (Sat.bring 5 (Sat.bring 7 (Sat.bring 7 (Sat.bring 7 (Sat.bring 7 h))))))))
  exact diskR_close (Sat.bring 2 (Sat.bring 2 h))

theorem disk_Remove {b : Nat} {D : DiskV} {name : ByteArray} {w : World} {R : List Hp} (h : Sat w (diskR b D :: R)) :
    FnC Tryd.prog 42 [(.pointer (some ⟨b, 0, none⟩)), .string name] w fun v w' => v = .int .i64 (D.remove name).2 ∧ Sat w' (diskR b (D.remove name).1 :: R) := by
  refine fnC_of_run Tryd.func42 rfl Tryd.ntmps42 (Nat.le_of_ble_eq_true rfl) (fun cs => ?_)
  refine run_seq (run_region_lit ?_)
  refine o_ef trivial (ef_box rfl rfl h (fun db w h => ?_))
  refine o_ef trivial (ef_box rfl rfl h (fun nb w h => ?_))
  refine o_rd (rd_assign rfl) trivial rfl ?_
  refine runO_nil (run_seq (run_seq (run_region_lit ?_)))
  refine o_ld rfl (h.at_ 1 rfl) T24 rfl rfl trivial rfl ?_
  refine o_rd (rd_eqlP0 T24 rfl rfl) trivial rfl ?_
  refine runO_nil (run_cond_false rfl (run_skip (run_seq (run_seq ?_))))
  obtain ⟨m, kvs, h⟩ := diskR_open (Sat.bring 2 (Sat.bring 1 (Sat.bring 1 h)))
  have hks := len_of_keys (Sat.vkeys 2 h rfl)
  have his := kget_of_keys (Sat.vkeys 2 h rfl) name
  obtain ⟨a0, l0, cp0, e0, hl0, hc0, hm0, hr0⟩ := Sat.valsAt name 2 h rfl
  obtain ⟨es1, ck1, hm1, h⟩ := h.mapOpen 1 rfl
  have hz1 := hm1.len
  refine run_drawS 10 1 [(0, true), (1, true), (2, true), (3, true), (4, true), (5, true), (6, true), (7, true), (8, true), (9, false), (10, false)] [(_, true), (_, true), (_, true), (_, true), (_, true), (_, true), (_, true), (_, true), (_, true), (_, false), (_, false)] h (Holds.cons (h.at_ 4 rfl) (Holds.cons (h.at_ 0 rfl) (Holds.cons (h.at_ 3 rfl) (Holds.cons (h.at_ 1 rfl) (Holds.nil _))))) mixed (by kernel_rfl) rfl ?_
  intro w h hK
  refine d_ld rfl 0 rfl T24 rfl rfl hK trivial rfl ?_
  refine d_rd (rd_nil rfl) hK trivial rfl ?_
  refine d_rd (rd_fieldA F70_0 S68 rfl) hK trivial rfl ?_
  refine d_ld rfl 1 rfl T68 rfl rfl hK trivial rfl ?_
  refine d_ld rfl 2 rfl T9 rfl rfl hK trivial rfl ?_
  refine d_look2 hm1 K9 Tryd.underlying68 S32 rfl 3 rfl rfl hK trivial rfl ?_
  refine d_rd (rd_move rfl) hK trivial rfl ?_
  refine d_rd (rd_extract rfl rfl) hK trivial rfl ?_
  refine d_test (rd_extract rfl rfl) hK trivial rfl (fun c2 => ?_) (fun c2 => ?_)
  · rw [his] at c2
    obtain ⟨f, hf⟩ := Option.isSome_iff_exists.1 c2
    rw [hf] at hl0
    simp only [Option.getD_some] at hl0
    refine d_rd0 (rd_assign rfl) hK trivial rfl ?_
    refine d_rd0 (rd_assign rfl) hK trivial rfl ?_
    refine d_nil ?_
    replace h := h.mapClose 1 rfl hm1
    refine run_seq (run_region_lit ?_)
    refine o_rd (rd_move rfl) trivial rfl ?_
    refine o_rd (rd_not rfl) trivial rfl ?_
    refine runO_nil (run_cond_false rfl (run_skip (run_seq (run_region_lit ?_))))
    refine o_ld rfl (h.at_ 4 rfl) T24 rfl rfl trivial rfl ?_
    refine o_rd (rd_funcL rfl) trivial rfl ?_
    refine o_ef trivial (ef_call (Tryd.call59) rfl rfl ?_)
    refine FnC.mono (disk_raw Tryd.call71 (cap := [.pointer (some ⟨db, 0, none⟩), .pointer (some ⟨nb, 0, none⟩)]) (Sat.bring 4 (Sat.bring 4 (Sat.bring 4 (Sat.bring 4 (Sat.bring 3 h))))) (fun _ w h => disk_Remove1 h)) ?_
    rintro _ w (⟨hs, rfl, h⟩ | ⟨hs, rfl, h⟩)
    · refine o_rd (rd_assign rfl) trivial rfl ?_
      refine runO_nil ?_
      refine run_ret Tryd.func42 (RV.tmp rfl RV.nil) ?_
      -- ret 0 path c2t.A0. L ['d', 'm', 'vals', 'db', 'nb']
      rw [remove_go hf, raw_stop hs]
      exact ⟨rfl, diskR_close (Sat.out 3 (Sat.out 4 h))⟩
    · refine o_rd (rd_assign rfl) trivial rfl ?_
      refine runO_nil ?_
      refine run_ret Tryd.func42 (RV.tmp rfl RV.nil) ?_
      -- ret 1 path c2t.A1. L ['D', 'db', 'nb']
      rw [remove_go hf, raw_go hs]
      exact ⟨rfl, (Sat.out 1 (Sat.out 2 h))⟩
  · rw [his] at c2
    have hf : kget D.files name = none := by simpa using c2
    rw [hf] at hl0
    simp only [Option.getD_none, List.length_nil] at hl0
    refine d_rd0 (rd_assign rfl) hK trivial rfl ?_
    refine d_rd0 (rd_assign rfl) hK trivial rfl ?_
    refine d_nil ?_
    replace h := h.mapClose 1 rfl hm1
    refine run_seq (run_region_lit ?_)
    refine o_rd (rd_move rfl) trivial rfl ?_
    refine o_rd (rd_not rfl) trivial rfl ?_
    refine runO_nil (run_cond_true rfl (run_seq (run_region_lit ?_)))
    refine o_rd (rd_assign rfl) trivial rfl ?_
    refine runO_nil ?_
    refine run_ret Tryd.func42 (RV.tmp rfl RV.nil) ?_
    -- ret 2 path c2f. L ['d', 'm', 'vals', 'nb', 'db']
    rw [remove_none hf]
    exact ⟨rfl, diskR_close (Sat.out 3 (Sat.out 4 h))⟩

theorem disk_Truncate {b : Nat} {D : DiskV} {name : ByteArray} {n : Int} {w : World} {R : List Hp} (hok : ∀ f, kget D.files name = some f → f.length ≤ 140737488355328) (h : Sat w (diskR b D :: R)) :
    FnC Tryd.prog 38 [(.pointer (some ⟨b, 0, none⟩)), .string name, .int .i64 n] w fun v w' => v = .int .i64 (D.truncate name n).2 ∧ Sat w' (diskR b (D.truncate name n).1 :: R) := by
  refine fnC_of_run Tryd.func38 rfl Tryd.ntmps38 (Nat.le_of_ble_eq_true rfl) (fun cs => ?_)
  refine run_seq (run_region_lit ?_)
  refine o_ef trivial (ef_box rfl rfl h (fun db w h => ?_))
  refine o_ef trivial (ef_box rfl rfl h (fun nb w h => ?_))
  refine o_ef trivial (ef_box rfl rfl h (fun ib w h => ?_))
  refine o_rd (rd_assign rfl) trivial rfl ?_
  refine runO_nil (run_seq (run_seq (run_region_lit ?_)))
  refine o_ld rfl (h.at_ 2 rfl) T24 rfl rfl trivial rfl ?_
  refine o_rd (rd_eqlP0 T24 rfl rfl) trivial rfl ?_
  refine runO_nil (run_cond_false rfl (run_skip (run_seq ?_)))
  obtain ⟨m, kvs, h⟩ := diskR_open (Sat.bring 3 (Sat.bring 2 (Sat.bring 2 (Sat.bring 2 h))))
  have hks := len_of_keys (Sat.vkeys 2 h rfl)
  have his := kget_of_keys (Sat.vkeys 2 h rfl) name
  obtain ⟨a0, l0, cp0, e0, hl0, hc0, hm0, hr0⟩ := Sat.valsAt name 2 h rfl
  obtain ⟨es1, ck1, hm1, h⟩ := h.mapOpen 1 rfl
  have hz1 := hm1.len
  refine run_drawS 11 1 [(0, true), (1, true), (2, true), (3, true), (4, true), (5, true), (6, true), (7, true), (8, true), (9, false), (10, false), (11, false)] [(_, true), (_, true), (_, true), (_, true), (_, true), (_, true), (_, true), (_, true), (_, true), (_, false), (_, false), (_, false)] h (Holds.cons (h.at_ 5 rfl) (Holds.cons (h.at_ 0 rfl) (Holds.cons (h.at_ 4 rfl) (Holds.cons (h.at_ 1 rfl) (Holds.nil _))))) mixed (by kernel_rfl) rfl ?_
  intro w h hK
  refine d_ld rfl 0 rfl T24 rfl rfl hK trivial rfl ?_
  refine d_rd (rd_nil rfl) hK trivial rfl ?_
  refine d_rd (rd_fieldA F70_0 S68 rfl) hK trivial rfl ?_
  refine d_ld rfl 1 rfl T68 rfl rfl hK trivial rfl ?_
  refine d_ld rfl 2 rfl T9 rfl rfl hK trivial rfl ?_
  refine d_look2 hm1 K9 Tryd.underlying68 S32 rfl 3 rfl rfl hK trivial rfl ?_
  refine d_rd (rd_move rfl) hK trivial rfl ?_
  refine d_rd (Reads.to (v' := .slice a0 l0 cp0) (rd_extract rfl rfl) (e0)) hK trivial rfl ?_
  refine d_test (rd_extract rfl rfl) hK trivial rfl (fun c2 => ?_) (fun c2 => ?_)
  · rw [his] at c2
    obtain ⟨f, hf⟩ := Option.isSome_iff_exists.1 c2
    rw [hf] at hl0
    simp only [Option.getD_some] at hl0
    refine d_ef trivial (ef_alloc S32 rfl h (fun tb w h => ?_))
    refine ⟨fun _ => (Holds.cons (h.at_ 6 rfl) (Holds.cons (h.at_ 1 rfl) (Holds.cons (h.at_ 5 rfl) (Holds.cons (h.at_ 2 rfl) (Holds.nil _))))), ?_⟩
    replace hK := (Holds.cons (h.at_ 6 rfl) (Holds.cons (h.at_ 1 rfl) (Holds.cons (h.at_ 5 rfl) (Holds.cons (h.at_ 2 rfl) (Holds.nil _)))))
    refine d_ef trivial (ef_store S32 0 rfl rfl h rfl rfl rfl (Nat.le_of_ble_eq_true rfl) rfl (fun w h => ?_))
    refine ⟨fun _ => (Holds.cons (h.at_ 6 rfl) (Holds.cons (h.at_ 1 rfl) (Holds.cons (h.at_ 5 rfl) (Holds.cons (h.at_ 2 rfl) (Holds.nil _))))), ?_⟩
    replace hK := (Holds.cons (h.at_ 6 rfl) (Holds.cons (h.at_ 1 rfl) (Holds.cons (h.at_ 5 rfl) (Holds.cons (h.at_ 2 rfl) (Holds.nil _)))))
    refine d_rd0 (rd_assign rfl) hK trivial rfl ?_
    refine d_nil ?_
    replace h := h.mapClose 2 rfl hm1
    refine run_seq (run_block (run_seq (run_region_lit ?_)))
    refine o_rd (rd_move rfl) trivial rfl ?_
    refine o_rd (rd_not rfl) trivial rfl ?_
    refine o_rd (rd_assign rfl) trivial rfl ?_
    refine runO_nil (run_cond_false rfl (run_seq (run_region_lit ?_)))
    refine o_ld rfl (h.at_ 4 rfl) T3 rfl rfl trivial rfl ?_
    refine o_tD (rd_lss rfl rfl) trivial rfl (fun c3 => ?_) (fun c3 => ?_)
    · refine o_rd (rd_move rfl) trivial rfl ?_
      refine o_pass rfl rfl rfl rfl ?_
      refine o_pass rfl rfl rfl rfl ?_
      refine o_pass rfl rfl rfl rfl ?_
      refine o_pass rfl rfl rfl rfl ?_
      refine o_rd (rd_pick_t rfl rfl) trivial rfl ?_
      refine o_rd (rd_assign rfl) trivial rfl ?_
      refine runO_nil (run_cond_true rfl (run_seq (run_region_lit ?_)))
      refine o_rd (rd_assign rfl) trivial rfl ?_
      refine runO_nil ?_
      refine run_ret Tryd.func38 (RV.tmp rfl RV.nil) ?_
      -- ret 0 path c2t.c3t. L ['tb', 'd', 'm', 'vals', 'ib', 'nb', 'db']
      rw [truncate_bad hf (by omega)]
      exact ⟨rfl, diskR_close (Sat.out 0 (Sat.out 4 (Sat.out 5 (Sat.out 6 h))))⟩
    · refine o_rd (rd_move rfl) trivial rfl ?_
      refine o_ld rfl (h.at_ 4 rfl) T3 rfl rfl rfl rfl ?_
      refine o_ld rfl (h.at_ 0 rfl) T32 rfl rfl rfl rfl ?_
      refine o_rd (rd_len (u := 0) T32 rfl) rfl rfl ?_
      refine o_tD (rd_gtr rfl rfl) rfl rfl (fun c4 => ?_) (fun c4 => ?_)
      · refine o_rd (rd_pick_f rfl rfl) trivial rfl ?_
        refine o_rd (rd_assign rfl) trivial rfl ?_
        refine runO_nil (run_cond_true rfl (run_seq (run_region_lit ?_)))
        refine o_rd (rd_assign rfl) trivial rfl ?_
        refine runO_nil ?_
        refine run_ret Tryd.func38 (RV.tmp rfl RV.nil) ?_
        -- ret 1 path c2t.c3f.c4t. L ['tb', 'd', 'm', 'vals', 'ib', 'nb', 'db']
        rw [truncate_bad hf (by omega)]
        exact ⟨rfl, diskR_close (Sat.out 0 (Sat.out 4 (Sat.out 5 (Sat.out 6 h))))⟩
      · refine o_rd (rd_pick_f rfl rfl) trivial rfl ?_
        refine o_rd (rd_assign rfl) trivial rfl ?_
        refine runO_nil (run_cond_false rfl (run_seq (run_region_lit ?_)))
        refine o_ld rfl (h.at_ 4 rfl) T3 rfl rfl trivial rfl ?_
        refine o_ld rfl (h.at_ 0 rfl) T32 rfl rfl trivial rfl ?_
        refine o_rd (rd_len (u := 0) T32 rfl) trivial rfl ?_
        refine o_tD (rd_eql rfl rfl) trivial rfl (fun c5 => ?_) (fun c5 => ?_)
        · refine o_rd (rd_assign rfl) trivial rfl ?_
          refine runO_nil (run_cond_true rfl (run_seq (run_region_lit ?_)))
          refine o_rd (rd_assign rfl) trivial rfl ?_
          refine runO_nil ?_
          refine run_ret Tryd.func38 (RV.tmp rfl RV.nil) ?_
          -- ret 2 path c2t.c3f.c4f.c5t. L ['tb', 'd', 'm', 'vals', 'ib', 'nb', 'db']
          rw [truncate_same hf (by omega)]
          exact ⟨rfl, diskR_close (Sat.out 0 (Sat.out 4 (Sat.out 5 (Sat.out 6 h))))⟩
        · refine o_rd (rd_assign rfl) trivial rfl ?_
          refine runO_nil (run_cond_false rfl (run_skip (run_inBlock (run_seq (run_region_lit ?_)))))
          refine o_ld rfl (h.at_ 6 rfl) T24 rfl rfl trivial rfl ?_
          refine o_rd (rd_funcL rfl) trivial rfl ?_
          refine o_ef trivial (ef_call (Tryd.call59) rfl rfl ?_)
          refine FnC.mono (disk_raw Tryd.call68 (cap := [.pointer (some ⟨tb, 0, none⟩), .pointer (some ⟨ib, 0, none⟩), .pointer (some ⟨db, 0, none⟩), .pointer (some ⟨nb, 0, none⟩)]) (Sat.bring 6 (Sat.bring 6 (Sat.bring 6 (Sat.bring 6 (Sat.bring 5 (Sat.bring 1 (Sat.bring 4 h))))))) (fun _ w h => disk_Truncate1 (D := D.went) (n := n) (f := f) e0 hf (by omega) (by omega) (by omega) (hok f hf) h)) ?_
          rintro _ w (⟨hs, rfl, h⟩ | ⟨hs, rfl, h⟩)
          · refine o_rd (rd_assign rfl) trivial rfl ?_
            refine runO_nil ?_
            refine run_ret Tryd.func38 (RV.tmp rfl RV.nil) ?_
            -- ret 3 path c2t.c3f.c4f.c5f.A0. L ['d', 'm', 'vals', 'db', 'nb', 'tb', 'ib']
            rw [truncate_go hf (by omega) (by omega), raw_stop hs]
            exact ⟨rfl, diskR_close (Sat.out 3 (Sat.out 4 (Sat.out 5 (Sat.out 6 h))))⟩
          · refine o_rd (rd_assign rfl) trivial rfl ?_
            refine runO_nil ?_
            refine run_ret Tryd.func38 (RV.tmp rfl RV.nil) ?_
            -- ret 4 path c2t.c3f.c4f.c5f.A1. L ['D', 'db', 'nb', 'tb', 'ib']
            rw [truncate_go hf (by omega) (by omega), raw_go hs]
            exact ⟨rfl, (Sat.out 1 (Sat.out 2 (Sat.out 3 (Sat.out 4 h))))⟩
  · rw [his] at c2
    have hf : kget D.files name = none := by simpa using c2
    rw [hf] at hl0
    simp only [Option.getD_none, List.length_nil] at hl0
    refine d_ef trivial (ef_alloc S32 rfl h (fun tb w h => ?_))
    refine ⟨fun _ => (Holds.cons (h.at_ 6 rfl) (Holds.cons (h.at_ 1 rfl) (Holds.cons (h.at_ 5 rfl) (Holds.cons (h.at_ 2 rfl) (Holds.nil _))))), ?_⟩
    replace hK := (Holds.cons (h.at_ 6 rfl) (Holds.cons (h.at_ 1 rfl) (Holds.cons (h.at_ 5 rfl) (Holds.cons (h.at_ 2 rfl) (Holds.nil _)))))
    refine d_ef trivial (ef_store S32 0 rfl rfl h rfl rfl rfl (Nat.le_of_ble_eq_true rfl) rfl (fun w h => ?_))
    refine ⟨fun _ => (Holds.cons (h.at_ 6 rfl) (Holds.cons (h.at_ 1 rfl) (Holds.cons (h.at_ 5 rfl) (Holds.cons (h.at_ 2 rfl) (Holds.nil _))))), ?_⟩
    replace hK := (Holds.cons (h.at_ 6 rfl) (Holds.cons (h.at_ 1 rfl) (Holds.cons (h.at_ 5 rfl) (Holds.cons (h.at_ 2 rfl) (Holds.nil _)))))
    refine d_rd0 (rd_assign rfl) hK trivial rfl ?_
    refine d_nil ?_
    replace h := h.mapClose 2 rfl hm1
    refine run_seq (run_block (run_seq (run_region_lit ?_)))
    refine o_rd (rd_move rfl) trivial rfl ?_
    refine o_rd (rd_not rfl) trivial rfl ?_
    refine o_rd (rd_assign rfl) trivial rfl ?_
    refine runO_nil (run_cond_true rfl (run_seq (run_region_lit ?_)))
    refine o_rd (rd_assign rfl) trivial rfl ?_
    refine runO_nil ?_
    refine run_ret Tryd.func38 (RV.tmp rfl RV.nil) ?_
    -- ret 5 path c2f. L ['tb', 'd', 'm', 'vals', 'ib', 'nb', 'db']
    rw [truncate_none hf]
    exact ⟨rfl, diskR_close (Sat.out 0 (Sat.out 4 (Sat.out 5 (Sat.out 6 h))))⟩

theorem disk_Rename {b : Nat} {D : DiskV} {name dst : ByteArray} {w : World} {R : List Hp} (h : Sat w (diskR b D :: R)) :
    FnC Tryd.prog 40 [(.pointer (some ⟨b, 0, none⟩)), .string name, .string dst] w fun v w' => v = .int .i64 (D.rename name dst).2 ∧ Sat w' (diskR b (D.rename name dst).1 :: R) := by
  refine fnC_of_run Tryd.func40 rfl Tryd.ntmps40 (Nat.le_of_ble_eq_true rfl) (fun cs => ?_)
  refine run_seq (run_region_lit ?_)
  refine o_ef trivial (ef_box rfl rfl h (fun db w h => ?_))
  refine o_ef trivial (ef_box rfl rfl h (fun nb w h => ?_))
  refine o_ef trivial (ef_box rfl rfl h (fun to w h => ?_))
  refine o_rd (rd_assign rfl) trivial rfl ?_
  refine runO_nil (run_seq (run_block (run_seq (run_region_lit ?_))))
  refine o_ld rfl (h.at_ 2 rfl) T24 rfl rfl trivial rfl ?_
  refine o_rd (rd_eqlP0 T24 rfl rfl) trivial rfl ?_
  refine o_rd (rd_assign rfl) trivial rfl ?_
  refine runO_nil (run_cond_false rfl (run_seq (run_region_lit ?_)))
  refine o_ld rfl (h.at_ 0 rfl) T9 rfl rfl trivial rfl ?_
  refine o_ef trivial (ef_call (Tryd.call58) rfl rfl ?_)
  refine FnC.mono (disk_may) ?_
  rintro _ _ ⟨rfl, rfl⟩
  refine o_know (b := _) 14 rfl (fun c1 => ?_) (fun c1 => ?_)
  · refine o_rd (rd_not rfl) trivial rfl ?_
    refine o_rd (rd_assign rfl) trivial rfl ?_
    refine runO_nil (run_cond_false rfl (run_skip (run_inBlock (run_seq ?_))))
    obtain ⟨m, kvs, h⟩ := diskR_open (Sat.bring 3 (Sat.bring 2 (Sat.bring 2 (Sat.bring 2 h))))
    have hks := len_of_keys (Sat.vkeys 2 h rfl)
    have his := kget_of_keys (Sat.vkeys 2 h rfl) name
    obtain ⟨a0, l0, cp0, e0, hl0, hc0, hm0, hr0⟩ := Sat.valsAt name 2 h rfl
    obtain ⟨es2, ck2, hm2, h⟩ := h.mapOpen 1 rfl
    have hz2 := hm2.len
    refine run_drawS 11 1 [(0, true), (1, true), (2, true), (3, true), (4, true), (5, true), (6, true), (7, true), (8, true), (9, false), (10, false), (11, false)] [(_, true), (_, true), (_, true), (_, true), (_, true), (_, true), (_, true), (_, true), (_, true), (_, false), (_, false), (_, false)] h (Holds.cons (h.at_ 5 rfl) (Holds.cons (h.at_ 0 rfl) (Holds.cons (h.at_ 4 rfl) (Holds.cons (h.at_ 1 rfl) (Holds.nil _))))) mixed (by kernel_rfl) rfl ?_
    intro w h hK
    refine d_ld rfl 0 rfl T24 rfl rfl hK trivial rfl ?_
    refine d_rd (rd_nil rfl) hK trivial rfl ?_
    refine d_rd (rd_fieldA F70_0 S68 rfl) hK trivial rfl ?_
    refine d_ld rfl 1 rfl T68 rfl rfl hK trivial rfl ?_
    refine d_ld rfl 2 rfl T9 rfl rfl hK trivial rfl ?_
    refine d_look2 hm2 K9 Tryd.underlying68 S32 rfl 3 rfl rfl hK trivial rfl ?_
    refine d_rd (rd_move rfl) hK trivial rfl ?_
    refine d_rd (Reads.to (v' := .slice a0 l0 cp0) (rd_extract rfl rfl) (e0)) hK trivial rfl ?_
    refine d_test (rd_extract rfl rfl) hK trivial rfl (fun c3 => ?_) (fun c3 => ?_)
    · rw [his] at c3
      obtain ⟨f, hf⟩ := Option.isSome_iff_exists.1 c3
      rw [hf] at hl0
      simp only [Option.getD_some] at hl0
      refine d_ef trivial (ef_alloc S32 rfl h (fun tb w h => ?_))
      refine ⟨fun _ => (Holds.cons (h.at_ 6 rfl) (Holds.cons (h.at_ 1 rfl) (Holds.cons (h.at_ 5 rfl) (Holds.cons (h.at_ 2 rfl) (Holds.nil _))))), ?_⟩
      replace hK := (Holds.cons (h.at_ 6 rfl) (Holds.cons (h.at_ 1 rfl) (Holds.cons (h.at_ 5 rfl) (Holds.cons (h.at_ 2 rfl) (Holds.nil _)))))
      refine d_ef trivial (ef_store S32 0 rfl rfl h rfl rfl rfl (Nat.le_of_ble_eq_true rfl) rfl (fun w h => ?_))
      refine ⟨fun _ => (Holds.cons (h.at_ 6 rfl) (Holds.cons (h.at_ 1 rfl) (Holds.cons (h.at_ 5 rfl) (Holds.cons (h.at_ 2 rfl) (Holds.nil _))))), ?_⟩
      replace hK := (Holds.cons (h.at_ 6 rfl) (Holds.cons (h.at_ 1 rfl) (Holds.cons (h.at_ 5 rfl) (Holds.cons (h.at_ 2 rfl) (Holds.nil _)))))
      refine d_rd0 (rd_assign rfl) hK trivial rfl ?_
      refine d_nil ?_
      replace h := h.mapClose 2 rfl hm2
      refine run_seq (run_block (run_seq (run_region_lit ?_)))
      refine o_rd (rd_move rfl) trivial rfl ?_
      refine o_rd (rd_not rfl) trivial rfl ?_
      refine o_rd (rd_assign rfl) trivial rfl ?_
      refine runO_nil (run_cond_false rfl (run_seq (run_region_lit ?_)))
      refine o_ld rfl (h.at_ 5 rfl) T9 rfl rfl trivial rfl ?_
      refine o_ld rfl (h.at_ 4 rfl) T9 rfl rfl trivial rfl ?_
      refine o_tD (rd_eqlS rfl rfl) trivial rfl (fun c4 => ?_) (fun c4 => ?_)
      · refine o_rd (rd_assign rfl) trivial rfl ?_
        refine runO_nil (run_cond_true rfl (run_seq (run_region_lit ?_)))
        refine o_rd (rd_assign rfl) trivial rfl ?_
        refine runO_nil ?_
        refine run_ret Tryd.func40 (RV.tmp rfl RV.nil) ?_
        -- ret 0 path c1t.c3t.c4t. L ['tb', 'd', 'm', 'vals', 'to', 'nb', 'db']
        rw [rename_same c1 hf c4]
        exact ⟨rfl, diskR_close (Sat.out 0 (Sat.out 4 (Sat.out 5 (Sat.out 6 h))))⟩
      · refine o_rd (rd_assign rfl) trivial rfl ?_
        refine runO_nil (run_cond_false rfl (run_skip (run_inBlock (run_seq (run_region_lit ?_)))))
        refine o_ld rfl (h.at_ 6 rfl) T24 rfl rfl trivial rfl ?_
        refine o_rd (rd_funcL rfl) trivial rfl ?_
        refine o_ef trivial (ef_call (Tryd.call59) rfl rfl ?_)
        refine FnC.mono (disk_raw Tryd.call69 (cap := [.pointer (some ⟨db, 0, none⟩), .pointer (some ⟨nb, 0, none⟩), .pointer (some ⟨tb, 0, none⟩), .pointer (some ⟨to, 0, none⟩)]) (Sat.bring 6 (Sat.bring 6 (Sat.bring 6 (Sat.bring 6 (Sat.bring 5 (Sat.bring 1 (Sat.bring 4 h))))))) (fun _ w h => disk_Rename1 (D := D.went) e0 hf h)) ?_
        rintro _ w (⟨hs, rfl, h⟩ | ⟨hs, rfl, h⟩)
        · refine o_rd (rd_assign rfl) trivial rfl ?_
          refine runO_nil ?_
          refine run_ret Tryd.func40 (RV.tmp rfl RV.nil) ?_
          -- ret 1 path c1t.c3t.c4f.A0. L ['d', 'm', 'vals', 'db', 'nb', 'tb', 'to']
          rw [rename_go c1 hf c4, raw_stop hs]
          exact ⟨rfl, diskR_close (Sat.out 3 (Sat.out 4 (Sat.out 5 (Sat.out 6 h))))⟩
        · refine o_rd (rd_assign rfl) trivial rfl ?_
          refine runO_nil ?_
          refine run_ret Tryd.func40 (RV.tmp rfl RV.nil) ?_
          -- ret 2 path c1t.c3t.c4f.A1. L ['D', 'db', 'nb', 'tb', 'to']
          rw [rename_go c1 hf c4, raw_go hs]
          exact ⟨rfl, (Sat.out 1 (Sat.out 2 (Sat.out 3 (Sat.out 4 h))))⟩
    · rw [his] at c3
      have hf : kget D.files name = none := by simpa using c3
      rw [hf] at hl0
      simp only [Option.getD_none, List.length_nil] at hl0
      refine d_ef trivial (ef_alloc S32 rfl h (fun tb w h => ?_))
      refine ⟨fun _ => (Holds.cons (h.at_ 6 rfl) (Holds.cons (h.at_ 1 rfl) (Holds.cons (h.at_ 5 rfl) (Holds.cons (h.at_ 2 rfl) (Holds.nil _))))), ?_⟩
      replace hK := (Holds.cons (h.at_ 6 rfl) (Holds.cons (h.at_ 1 rfl) (Holds.cons (h.at_ 5 rfl) (Holds.cons (h.at_ 2 rfl) (Holds.nil _)))))
      refine d_ef trivial (ef_store S32 0 rfl rfl h rfl rfl rfl (Nat.le_of_ble_eq_true rfl) rfl (fun w h => ?_))
      refine ⟨fun _ => (Holds.cons (h.at_ 6 rfl) (Holds.cons (h.at_ 1 rfl) (Holds.cons (h.at_ 5 rfl) (Holds.cons (h.at_ 2 rfl) (Holds.nil _))))), ?_⟩
      replace hK := (Holds.cons (h.at_ 6 rfl) (Holds.cons (h.at_ 1 rfl) (Holds.cons (h.at_ 5 rfl) (Holds.cons (h.at_ 2 rfl) (Holds.nil _)))))
      refine d_rd0 (rd_assign rfl) hK trivial rfl ?_
      refine d_nil ?_
      replace h := h.mapClose 2 rfl hm2
      refine run_seq (run_block (run_seq (run_region_lit ?_)))
      refine o_rd (rd_move rfl) trivial rfl ?_
      refine o_rd (rd_not rfl) trivial rfl ?_
      refine o_rd (rd_assign rfl) trivial rfl ?_
      refine runO_nil (run_cond_true rfl (run_seq (run_region_lit ?_)))
      refine o_rd (rd_assign rfl) trivial rfl ?_
      refine runO_nil ?_
      refine run_ret Tryd.func40 (RV.tmp rfl RV.nil) ?_
      -- ret 3 path c1t.c3f. L ['tb', 'd', 'm', 'vals', 'to', 'nb', 'db']
      rw [rename_none c1 hf]
      exact ⟨rfl, diskR_close (Sat.out 0 (Sat.out 4 (Sat.out 5 (Sat.out 6 h))))⟩
  · refine o_rd (rd_not rfl) trivial rfl ?_
    refine o_rd (rd_assign rfl) trivial rfl ?_
    refine runO_nil (run_cond_true rfl (run_seq (run_region_lit ?_)))
    refine o_rd (rd_assign rfl) trivial rfl ?_
    refine runO_nil ?_
    refine run_ret Tryd.func40 (RV.tmp rfl RV.nil) ?_
    -- ret 4 path c1f. L ['to', 'nb', 'db', 'D']
    rw [rename_bad (by rw [c1]; exact Bool.false_ne_true)]
    exact ⟨rfl, (Sat.out 0 (Sat.out 1 (Sat.out 2 h)))⟩

theorem disk_Read {b : Nat} {D : DiskV} {name : ByteArray} {w : World} {R : List Hp} (hok : ∀ f, kget D.files name = some f → f.length ≤ 140737488355328) (h : Sat w (diskR b D :: R)) :
    FnC Tryd.prog 29 [(.pointer (some ⟨b, 0, none⟩)), .string name] w fun v w' => ∃ a n c, v = .tuple #[.slice a n c, .int .i64 (if (kget D.files name).isSome then 0 else 4)] ∧ Sat w' (OwnS 5 1 (.slice a n c) (bcells ((kget D.files name).getD [])) :: diskR b D :: R) := by
  refine fnC_of_run Tryd.func29 rfl Tryd.ntmps29 (Nat.le_of_ble_eq_true rfl) (fun cs => ?_)
  refine run_seq (run_region_lit ?_)
  refine o_rd (rd_assign rfl) trivial rfl ?_
  refine o_rd (rd_assign rfl) trivial rfl ?_
  refine runO_nil (run_seq (run_seq (run_region_lit ?_)))
  refine o_rd (rd_move rfl) trivial rfl ?_
  refine o_rd (rd_eqlP0 T24 rfl rfl) trivial rfl ?_
  refine runO_nil (run_cond_false rfl (run_skip (run_seq ?_)))
  obtain ⟨m, kvs, h⟩ := diskR_open h
  have hks := len_of_keys (Sat.vkeys 2 h rfl)
  have his := kget_of_keys (Sat.vkeys 2 h rfl) name
  obtain ⟨a0, l0, cp0, e0, hl0, hc0, hm0, hr0⟩ := Sat.valsAt name 2 h rfl
  obtain ⟨es1, ck1, hm1, h⟩ := h.mapOpen 1 rfl
  have hz1 := hm1.len
  refine run_region_lit ?_
  refine o_rd (rd_move rfl) trivial rfl ?_
  refine o_rd (rd_nil rfl) trivial rfl ?_
  refine o_rd (rd_fieldA F70_0 S68 rfl) trivial rfl ?_
  refine o_ld rfl (h.at_ 0 rfl) T68 rfl rfl trivial rfl ?_
  refine o_rd (rd_move rfl) trivial rfl ?_
  refine o_look2 hm1 K9 Tryd.underlying68 S32 rfl (h.at_ 1 rfl) rfl trivial rfl ?_
  refine o_rd (rd_move rfl) trivial rfl ?_
  refine o_rd (Reads.to (v' := .slice a0 l0 cp0) (rd_extract rfl rfl) (e0)) trivial rfl ?_
  refine o_test (rd_extract rfl rfl) trivial rfl (fun c2 => ?_) (fun c2 => ?_)
  · have c2q := c2
    rw [his] at c2
    obtain ⟨f, hf⟩ := Option.isSome_iff_exists.1 c2
    have hx := hok f hf
    rw [← Option.getD_some (a := f) (b := []), ← hf] at hx
    subst hl0
    refine o_rd (rd_assign rfl) trivial rfl ?_
    refine o_rd (rd_assign rfl) trivial rfl ?_
    refine runO_nil ?_
    replace h := h.mapClose 1 rfl hm1
    refine run_seq (run_seq (run_region_lit ?_))
    refine o_rd (rd_move rfl) trivial rfl ?_
    refine o_rd (rd_not rfl) trivial rfl ?_
    refine runO_nil (run_cond_false rfl (run_skip (run_seq (run_region_lit ?_))))
    refine o_rd (rd_move rfl) trivial rfl ?_
    refine o_ef trivial (ef_call (Tryd.call30) rfl rfl ?_)
    refine FnC.mono (clone_bytes (fun g x => vals_row e0 g x) hx (Sat.bring 2 h)) ?_
    rintro _ w ⟨a2, n2, cc2, rfl, h⟩
    refine o_rd (rd_assign rfl) trivial rfl ?_
    refine o_rd (rd_assign rfl) trivial rfl ?_
    refine runO_nil ?_
    refine run_ret Tryd.func29 (RV.tmp rfl (RV.tmp rfl RV.nil)) ?_
    -- ret 0 path c2t. L ['o', 'vals', 'd', 'm']
    rw [hf]
    rw [hf] at h
    exact ⟨a2, n2, cc2, rfl, Sat.swap (diskR_close (Sat.bring 3 (Sat.bring 3 (Sat.bring 1 h))))⟩
  · rw [his] at c2
    have hf : kget D.files name = none := by simpa using c2
    rw [hf] at hl0
    simp only [Option.getD_none, List.length_nil] at hl0
    refine o_rd (rd_assign rfl) trivial rfl ?_
    refine o_rd (rd_assign rfl) trivial rfl ?_
    refine runO_nil ?_
    replace h := h.mapClose 1 rfl hm1
    refine run_seq (run_seq (run_region_lit ?_))
    refine o_rd (rd_move rfl) trivial rfl ?_
    refine o_rd (rd_not rfl) trivial rfl ?_
    refine runO_nil (run_cond_true rfl (run_seq (run_region_lit ?_)))
    refine o_rd (rd_assign rfl) trivial rfl ?_
    refine o_rd (rd_assign rfl) trivial rfl ?_
    refine runO_nil ?_
    refine run_ret Tryd.func29 (RV.tmp rfl (RV.tmp rfl RV.nil)) ?_
    -- ret 1 path c2f. L ['d', 'm', 'vals']
    rw [hf]
    exact ⟨none, 0, 0, rfl, Sat.lone (own_none none) (diskR_close h)⟩

theorem disk_Size {b : Nat} {D : DiskV} {name : ByteArray} {w : World} {R : List Hp} (h : Sat w (diskR b D :: R)) :
    FnC Tryd.prog 64 [(.pointer (some ⟨b, 0, none⟩)), .string name] w fun v w' => v = .tuple #[.int .i64 ((kget D.files name).getD []).length, .int .i64 (if (kget D.files name).isSome then 0 else 4)] ∧ Sat w' (diskR b D :: R) := by
  refine fnC_of_run Tryd.func64 rfl Tryd.ntmps64 (Nat.le_of_ble_eq_true rfl) (fun cs => ?_)
  refine run_seq (run_region_lit ?_)
  refine o_rd (rd_assign rfl) trivial rfl ?_
  refine o_rd (rd_assign rfl) trivial rfl ?_
  refine runO_nil (run_seq (run_seq (run_region_lit ?_)))
  refine o_rd (rd_move rfl) trivial rfl ?_
  refine o_rd (rd_eqlP0 T24 rfl rfl) trivial rfl ?_
  refine runO_nil (run_cond_false rfl (run_skip (run_seq ?_)))
  obtain ⟨m, kvs, h⟩ := diskR_open h
  have hks := len_of_keys (Sat.vkeys 2 h rfl)
  have his := kget_of_keys (Sat.vkeys 2 h rfl) name
  obtain ⟨a0, l0, cp0, e0, hl0, hc0, hm0, hr0⟩ := Sat.valsAt name 2 h rfl
  obtain ⟨es1, ck1, hm1, h⟩ := h.mapOpen 1 rfl
  have hz1 := hm1.len
  refine run_region_lit ?_
  refine o_rd (rd_move rfl) trivial rfl ?_
  refine o_rd (rd_nil rfl) trivial rfl ?_
  refine o_rd (rd_fieldA F70_0 S68 rfl) trivial rfl ?_
  refine o_ld rfl (h.at_ 0 rfl) T68 rfl rfl trivial rfl ?_
  refine o_rd (rd_move rfl) trivial rfl ?_
  refine o_look2 hm1 K9 Tryd.underlying68 S32 rfl (h.at_ 1 rfl) rfl trivial rfl ?_
  refine o_rd (rd_move rfl) trivial rfl ?_
  refine o_rd (Reads.to (v' := .slice a0 l0 cp0) (rd_extract rfl rfl) (e0)) trivial rfl ?_
  refine o_test (rd_extract rfl rfl) trivial rfl (fun c2 => ?_) (fun c2 => ?_)
  · rw [his] at c2
    obtain ⟨f, hf⟩ := Option.isSome_iff_exists.1 c2
    rw [hf] at hl0
    simp only [Option.getD_some] at hl0
    refine o_rd (rd_assign rfl) trivial rfl ?_
    refine o_rd (rd_assign rfl) trivial rfl ?_
    refine runO_nil ?_
    replace h := h.mapClose 1 rfl hm1
    refine run_seq (run_seq (run_region_lit ?_))
    refine o_rd (rd_move rfl) trivial rfl ?_
    refine o_rd (rd_not rfl) trivial rfl ?_
    refine runO_nil (run_cond_false rfl (run_skip (run_seq (run_region_lit ?_))))
    refine o_rd (rd_move rfl) trivial rfl ?_
    refine o_rd (rd_len (u := 0) T32 rfl) trivial rfl ?_
    refine o_rd (rd_assign rfl) trivial rfl ?_
    refine o_rd (rd_assign rfl) trivial rfl ?_
    refine runO_nil ?_
    refine run_ret Tryd.func64 (RV.tmp rfl (RV.tmp rfl RV.nil)) ?_
    -- ret 0 path c2t. L ['d', 'm', 'vals']
    rw [hf]
    exact ⟨by rw [hl0]; rfl, diskR_close h⟩
  · rw [his] at c2
    have hf : kget D.files name = none := by simpa using c2
    rw [hf] at hl0
    simp only [Option.getD_none, List.length_nil] at hl0
    refine o_rd (rd_assign rfl) trivial rfl ?_
    refine o_rd (rd_assign rfl) trivial rfl ?_
    refine runO_nil ?_
    replace h := h.mapClose 1 rfl hm1
    refine run_seq (run_seq (run_region_lit ?_))
    refine o_rd (rd_move rfl) trivial rfl ?_
    refine o_rd (rd_not rfl) trivial rfl ?_
    refine runO_nil (run_cond_true rfl (run_seq (run_region_lit ?_)))
    refine o_rd (rd_assign rfl) trivial rfl ?_
    refine o_rd (rd_assign rfl) trivial rfl ?_
    refine runO_nil ?_
    refine run_ret Tryd.func64 (RV.tmp rfl (RV.tmp rfl RV.nil)) ?_
    -- ret 1 path c2f. L ['d', 'm', 'vals']
    rw [hf]
    exact ⟨rfl, diskR_close h⟩

theorem disk_New {w : World} {R : List Hp} (h : Sat w R) :
    FnC Tryd.prog 8 [] w fun v w' => ∃ b, v = .pointer (some ⟨b, 0, none⟩) ∧ Sat w' (diskR b ⟨[], 0, 0, false⟩ :: R) := by
  refine fnC_of_run Tryd.func8 rfl Tryd.ntmps8 (Nat.le_of_ble_eq_true rfl) (fun cs => ?_)
  refine run_seq (run_region_lit ?_)
  refine o_rd (rd_assign rfl) trivial rfl ?_
  refine runO_nil (run_seq (run_region_lit ?_))
  refine o_ef trivial (ef_makeMap rfl h (fun m1 w h => ?_))
  refine o_rd (Reads.to (v' := .agg #[.map (some m1), .int .i64 0, .int .i64 0, .bool false]) (rd_build B70 rfl rfl) rfl) trivial rfl ?_
  refine o_ef trivial (ef_box rfl rfl h (fun b2 w h => ?_))
  refine o_rd (rd_assign rfl) trivial rfl ?_
  refine runO_nil ?_
  refine run_ret Tryd.func8 (RV.tmp rfl RV.nil) ?_
  -- ret 0 path  L ['b2', 'm1']
  replace h := Sat.conv 1 h rfl (fun g x => mapR_empty strK m1 g x)
  exact ⟨b2, rfl, diskR_close (kvs := []) (Sat.bring 2 (Sat.bring 2 (Sat.lone (A := valsR [] []) (fun _ => trivial) h)))⟩

theorem disk_Copy {b : Nat} {D : DiskV} {w : World} {R : List Hp} (hok : ∀ k f, kget D.files k = some f → f.length ≤ 140737488355328) (hnd : (keys D.files).Nodup) (h : Sat w (diskR b D :: R)) :
    FnC Tryd.prog 11 [(.pointer (some ⟨b, 0, none⟩))] w fun v w' => ∃ b2 fs, v = .pointer (some ⟨b2, 0, none⟩) ∧ (keys fs).Perm (keys D.files) ∧ (∀ k, kget fs k = kget D.files k) ∧ Sat w' (diskR b2 ⟨fs, 0, 0, false⟩ :: diskR b D :: R) := by
  refine fnC_of_run Tryd.func11 rfl Tryd.ntmps11 (Nat.le_of_ble_eq_true rfl) (fun cs => ?_)
  refine run_seq (run_region_lit ?_)
  refine o_rd (rd_assign rfl) trivial rfl ?_
  refine runO_nil (run_seq (run_seq (run_region_lit ?_)))
  refine o_rd (rd_move rfl) trivial rfl ?_
  refine o_rd (rd_eqlP0 T24 rfl rfl) trivial rfl ?_
  refine runO_nil (run_cond_false rfl (run_skip (run_seq (run_region_lit ?_))))
  refine o_ef trivial (ef_call (Tryd.call8) rfl rfl ?_)
  refine FnC.mono (disk_New h) ?_
  rintro _ w ⟨b2, rfl, h⟩
  refine o_rd (rd_assign rfl) trivial rfl ?_
  refine runO_nil (run_seq (run_seq ?_))
  obtain ⟨m, kvs, h⟩ := diskR_open (Sat.bring 1 h)
  obtain ⟨m2, kvs2, h⟩ := diskR_open (Sat.bring 3 h)
  have hks := Sat.vkeys 5 h rfl
  refine run_region_lit ?_
  refine o_rd (rd_move rfl) trivial rfl ?_
  refine o_rd (rd_nil rfl) trivial rfl ?_
  refine o_rd (rd_fieldA F70_0 S68 rfl) trivial rfl ?_
  refine o_ld rfl (h.at_ 3 rfl) T68 rfl rfl trivial rfl ?_
  refine o_ef trivial (ef_range Tryd.underlying68 4 rfl h rfl rfl (fun it w h => ?_))
  refine runO_nil (run_block ?_)
  refine run_loop (σ := List (ByteArray × Value) × List (ByteArray × List UInt8) × List (ByteArray × Value) × Option (ByteArray × Value)) (fun (kvs1, fs1, left, cur) => [(3, .pointer (some ⟨b2, 0, none⟩)), (13, .pointer (some ⟨it, 0, none⟩))]) (fun (kvs1, fs1, left, cur) w => Sat w (pt b2 (.cells #[.map (some m2), .int .i64 0, .int .i64 0, .bool false] 70) :: mapR strK m2 kvs1 :: valsR kvs1 fs1 :: pt b (.cells #[.map (some m), .int .i64 D.writes, .int .i64 D.left, .bool D.cut] 70) :: iterR strK m it kvs left cur :: valsR kvs D.files :: R) ∧ (keys fs1 ++ keys left).Perm (keys D.files) ∧ (∀ p, p ∈ left → p ∈ kvs) ∧ ∀ k f, kget fs1 k = some f → kget D.files k = some f) (fun (kvs1, fs1, left, cur) => left.length) (kvs2, [], kvs, none) ?_ (sub_cons rfl (sub_cons rfl (sub_nil _))) ?_
  · exact ⟨h, by rw [hks]; simp [keys], fun _ x => x, fun k f x => by simp [kget] at x⟩
  clear h
  rintro ⟨kvs1, fs1, left, cur⟩ w ⟨h, hp, hsub, hsm⟩ ih
  refine run_seq (run_region_lit ?_)
  refine o_ef trivial (ef_next 4 rfl h rfl rfl (fun hnil w h => ?_) (fun l1 q v l2 hl w h => ?_))
  · refine o_rd (rd_extract rfl rfl) trivial rfl ?_
    refine runO_nil (run_seq (run_cond_false rfl (run_exit rfl (run_seq (run_region_lit ?_)))))
    refine o_rd (rd_move rfl) trivial rfl ?_
    refine o_rd (rd_assign rfl) trivial rfl ?_
    refine runO_nil ?_
    refine run_ret Tryd.func11 (RV.tmp rfl RV.nil) ?_
    -- ret 0 path L0.N0. L ['d2', 'm2', 'vals2', 'd', 'm', 'vals']
    exact ⟨b2, fs1, rfl, (by rw [hnil] at hp; simpa [keys] using hp), copy_same (by rw [hnil] at hp; simpa [keys] using hp) hsm, diskR_close (D := ⟨fs1, 0, 0, false⟩) (Sat.bring 3 (Sat.bring 3 (Sat.bring 3 (diskR_close (Sat.bring 5 (Sat.bring 5 (Sat.bring 5 (Sat.bring 2 (Sat.bring 2 (Sat.bring 2 h))))))))))⟩
  · have hq : kget kvs q = some v := kget_mem (hks ▸ hnd) (hsub _ (by rw [hl]; simp))
    obtain ⟨a0, l0, cp0, e0, hl0, hc0, hm0, hr0⟩ := Sat.valsAt q 5 h rfl
    have e1 := e0
    rw [hq, Option.getD_some] at e1
    subst e1
    have hf0 : (kget D.files q).isSome = true := by rw [← kget_of_keys hks, hq]; rfl
    obtain ⟨f, hf⟩ := Option.isSome_iff_exists.1 hf0
    have hx := hok q f hf
    rw [← Option.getD_some (a := f) (b := []), ← hf] at hx
    subst hl0
    refine o_rd (rd_extract rfl rfl) trivial rfl ?_
    refine runO_nil (run_seq (run_cond_true rfl (run_skip (run_block (run_seq (run_region_lit ?_))))))
    refine o_ef trivial (ef_entry 4 rfl h rfl rfl ?_)
    refine o_rd (rd_extract rfl rfl) trivial rfl ?_
    refine o_rd (rd_extract rfl rfl) trivial rfl ?_
    refine o_rd (rd_assign rfl) trivial rfl ?_
    refine o_rd (rd_assign rfl) trivial rfl ?_
    refine runO_nil ?_
    refine run_drawS 7 1 [(0, true), (1, true), (2, true), (3, true), (4, true), (5, true), (6, false), (7, false)] [(_, true), (_, true), (_, true), (_, true), (_, true), (_, true), (_, false), (_, false)] h (Holds.cons (h.at_ 0 rfl) (Holds.nil _)) mixed (by kernel_rfl) rfl ?_
    intro w h hK
    refine d_rd (rd_move rfl) hK trivial rfl ?_
    refine d_rd (rd_nil rfl) hK trivial rfl ?_
    refine d_rd (rd_fieldA F70_0 S68 rfl) hK trivial rfl ?_
    refine d_ld rfl 0 rfl T68 rfl rfl hK trivial rfl ?_
    refine d_rd (rd_move rfl) hK trivial rfl ?_
    refine d_rd (rd_move rfl) hK trivial rfl ?_
    refine d_ef trivial (ef_call (Tryd.call30) rfl rfl ?_)
    refine FnC.mono (clone_bytes (fun g x => vals_row e0 g x) hx (Sat.bring 5 h)) ?_
    rintro _ w ⟨a2, n2, cc2, rfl, h⟩
    refine ⟨fun _ => (Holds.cons (h.at_ 2 rfl) (Holds.nil _)), ?_⟩
    replace hK := (Holds.cons (h.at_ 2 rfl) (Holds.nil _))
    refine d_ef trivial (ef_mapUpdate Tryd.underlying68 K9 3 rfl rfl rfl h rfl (fun w h => ?_))
    refine ⟨fun e => absurd rfl e, ?_⟩
    refine d_nil ?_
    refine run_inBlock ?_
    -- round of loop 0 path L0.N1. L ['o', 'vals', 'd2', 'm2', 'vals2', 'd', 'm']
    replace h := vals_set q (Sat.bring 6 (Sat.bring 6 (Sat.bring 5 (Sat.bring 5 (Sat.bring 6 (Sat.bring 6 (Sat.bring 1 h)))))))
    rw [show (kget D.files q).getD [] = f by rw [hf]; rfl] at h
    exact run_fewer (sub_cons rfl (sub_cons rfl (sub_nil _))) (ih (_, kset fs1 q f, l1 ++ l2, some (q, _)) w ⟨Sat.bring 2 (Sat.bring 2 h), perm_step hp hnd hl, fun p x => hsub p (hl ▸ (List.mem_append.1 x).elim (fun y => List.mem_append_left _ y) (fun y => List.mem_append_right _ (List.mem_cons_of_mem _ y))), sub_step hf hsm⟩ (by simp only [hl, List.length_append, List.length_cons]; omega))

end Go.Proofs.YtmhpgdpegneejaaDoor
