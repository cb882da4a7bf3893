import Derived.Test.YtmhpgdpegneejaaDoorRf0
set_option maxRecDepth 100000
set_option linter.unusedVariables false
set_option linter.unusedSimpArgs false
namespace Go.Proofs.YtmhpgdpegneejaaDoor
open Go Go.Proofs Go.Proofs.Slx
theorem ref_New {w : World} {R : List Hp} (h : Sat w R) :
    FnC Tryd.prog 9 [] w fun v w' => ∃ b, v = .pointer (some ⟨b, 0, none⟩) ∧ Sat w' (refR b ⟨[], 0, 0, false⟩ :: R) := by
  refine fnC_of_run Tryd.func9 rfl Tryd.ntmps9 (Nat.le_of_ble_eq_true rfl) (fun cs => ?_)
  refine run_seq (run_region_lit ?_)
  refine o_rd (rd_assign rfl) trivial rfl ?_
  refine runO_nil (run_seq (run_region_lit ?_))
  refine o_rd (Reads.to (v' := .agg #[.slice none 0 0, .int .i64 0, .int .i64 (-1)]) (rd_build B73 rfl rfl) rfl) trivial rfl ?_
  refine o_ef trivial (ef_box rfl rfl h (fun b1 w h => ?_))
  refine o_rd (rd_assign rfl) trivial rfl ?_
  refine runO_nil ?_
  refine run_ret Tryd.func9 (RV.tmp rfl RV.nil) ?_
  -- ret 0 path  L ['b1']
  exact ⟨b1, rfl, refR_close (gs := []) (v := .slice none 0 0) (by intro e; cases e) (Sat.bring 2 (Sat.lone (A := OwnS 76 2 (.slice none 0 0) []) (own_none none) (Sat.lone (A := valsR [] []) (fun _ => trivial) h)))⟩

theorem ref_FindO {b : Nat} {W : DiskV} {name : ByteArray} {a : Option Addr} {c : Nat} {gs : List (ByteArray × Value)} {w : World} {R : List Hp} (hnc : gs.length ≤ c) (hcm : c ≤ 9223372036854775807) (hkg : keys gs = keys W.files) (h : Sat w (pt b (.cells #[.slice a gs.length c, .int .i64 W.writes, .int .i64 (if W.cut then W.left else -1)] 73) :: OwnS 76 2 (.slice a gs.length c) (fcells gs) :: valsR gs W.files :: R)) :
    FnC Tryd.prog 65 [(.pointer (some ⟨b, 0, none⟩)), .string name] w fun v w' => v = .int .i64 (findI W.files name) ∧ Sat w' (pt b (.cells #[.slice a gs.length c, .int .i64 W.writes, .int .i64 (if W.cut then W.left else -1)] 73) :: OwnS 76 2 (.slice a gs.length c) (fcells gs) :: valsR gs W.files :: R) := by
  refine fnC_of_run Tryd.func65 rfl Tryd.ntmps65 (Nat.le_of_ble_eq_true rfl) (fun cs => ?_)
  refine run_seq (run_region_lit ?_)
  refine o_rd (rd_assign rfl) trivial rfl ?_
  refine runO_nil (run_seq (run_seq (run_region_lit ?_)))
  refine o_rd (rd_move rfl) trivial rfl ?_
  refine o_rd (rd_nil rfl) trivial rfl ?_
  refine o_rd (rd_fieldA F73_0 S71 rfl) trivial rfl ?_
  refine o_ld rfl (h.at_ 0 rfl) T71 rfl rfl trivial rfl ?_
  refine o_rd (rd_len (u := 0) T71 rfl) trivial rfl ?_
  refine o_rd (rd_move rfl) trivial rfl ?_
  refine runO_nil (run_block ?_)
  refine run_loop (σ := Nat) (fun i => [(1, .string name), (10, .slice a gs.length c), (11, .int .i64 gs.length), (12, .int .i64 (i : Nat))]) (fun i w => Sat w (pt b (.cells #[.slice a gs.length c, .int .i64 W.writes, .int .i64 (if W.cut then W.left else -1)] 73) :: OwnS 76 2 (.slice a gs.length c) (fcells gs) :: valsR gs W.files :: R) ∧ i ≤ gs.length ∧ i ≤ pos gs name) (fun i => gs.length - i) 0 ?_ (sub_cons rfl (sub_cons rfl (sub_cons rfl (sub_cons rfl (sub_nil _))))) ?_
  · exact ⟨h, Nat.zero_le _, Nat.zero_le _⟩
  clear h
  rintro i w ⟨h, hi, hp⟩ ih
  refine run_seq (run_region_lit ?_)
  refine o_tD (rd_lss rfl rfl) trivial rfl (fun c1 => ?_) (fun c1 => ?_)
  · refine runO_nil (run_seq (run_cond_true rfl (run_skip (run_seq (run_block (run_seq ?_))))))
    obtain ⟨bb, C, fr, nm, fa, fl, fc, f, ea, hgi, hfi, hfl, hfc, hfm, hb, hcp, hcb, hrow⟩ := file_at 1 2 h rfl rfl (i := i) (by omega)
    subst ea
    refine run_region_lit ?_
    refine o_rd (rd_move rfl) trivial rfl ?_
    refine o_rd (rd_idx T71 S76 rfl rfl (by omega) (by omega)) trivial rfl ?_
    refine o_ldG rfl hb G76 hcp trivial rfl ?_
    refine o_ef trivial (ef_alloc S76 rfl h (fun t w h => ?_))
    refine o_rd (rd_assign rfl) trivial rfl ?_
    refine o_ef trivial (ef_store S76 0 rfl rfl h rfl rfl rfl (Nat.le_of_ble_eq_true rfl) rfl (fun w h => ?_))
    refine runO_nil (run_seq (run_region_lit ?_))
    refine o_rd (rd_fieldA F76_0 S9 rfl) trivial rfl ?_
    refine o_ld rfl (h.at_ 0 rfl) T9 rfl rfl trivial rfl ?_
    refine o_rd (rd_move rfl) trivial rfl ?_
    refine o_tD (rd_eqlS rfl rfl) trivial rfl (fun c2 => ?_) (fun c2 => ?_)
    · refine runO_nil (run_cond_true rfl (run_seq (run_region_lit ?_)))
      refine o_rd (rd_move rfl) trivial rfl ?_
      refine o_rd (rd_assign rfl) trivial rfl ?_
      refine runO_nil ?_
      refine run_ret Tryd.func65 (RV.tmp rfl RV.nil) ?_
      -- ret 0 path L0.c1t.c2t. L ['t', 'd', 'fl', 'vals']
      rw [find_hit hkg hp hgi c2]
      exact ⟨rfl, (Sat.out 0 h)⟩
    · refine runO_nil (run_cond_false rfl (run_skip (run_inBlock (run_region_lit ?_))))
      refine o_rd (rd_addi rfl rfl (by constructor <;> omega)) trivial rfl ?_
      refine o_rd (rd_move rfl) trivial rfl ?_
      refine runO_nil ?_
      -- round of loop 0 path L0.c1t.c2f. L ['t', 'd', 'fl', 'vals']
      exact run_fewer (sub_cons rfl (sub_cons rfl (sub_cons rfl (sub_cons rfl (sub_nil _))))) (ih (i + 1) w ⟨(Sat.out 0 h), by omega, (pos_at hp hgi).2 c2⟩ (by omega))
  · refine runO_nil (run_seq (run_cond_false rfl (run_exit rfl (run_seq (run_region_lit ?_)))))
    refine o_rd (rd_assign rfl) trivial rfl ?_
    refine runO_nil ?_
    refine run_ret Tryd.func65 (RV.tmp rfl RV.nil) ?_
    -- ret 1 path L0.c1f. L ['d', 'fl', 'vals']
    rw [find_miss hkg (by omega)]
    exact ⟨rfl, h⟩

theorem ref_Find {b : Nat} {W : DiskV} {name : ByteArray} {w : World} {R : List Hp} (h : Sat w (refR b W :: R)) :
    FnC Tryd.prog 65 [(.pointer (some ⟨b, 0, none⟩)), .string name] w fun v w' => v = .int .i64 (findI W.files name) ∧ Sat w' (refR b W :: R) := by
  obtain ⟨a, n, c, gs, hcut, hn, hnc, hcm, hkg, h⟩ := refR_open h
  subst hn
  exact FnC.mono (ref_FindO hnc hcm hkg h) (fun _ _ ⟨e, h⟩ => ⟨e, refR_close hcut h⟩)

theorem ref_Name {name : ByteArray} {w0 : World} (hnm : name.size ≤ 9223372036854775807)  :
    FnC Tryd.prog 66 [.string name] w0 fun v w' => v = .bool (may name) ∧ w' = w0 := by
  have hsz : name.data.toList.length = name.size := rfl
  refine fnC_of_run Tryd.func66 rfl Tryd.ntmps66 (Nat.le_of_ble_eq_true rfl) (fun cs => ?_)
  refine run_seq (run_region_lit ?_)
  refine o_rd (rd_assign rfl) trivial rfl ?_
  refine runO_nil (run_seq (run_seq (run_region_lit ?_)))
  refine o_rd (rd_assign rfl) trivial rfl ?_
  refine runO_nil (run_block ?_)
  refine run_loop (σ := Nat) (fun i => [(0, .string name), (3, .int .i64 (i : Nat))]) (fun i w => w = w0 ∧ i ≤ name.size ∧ (name.data.toList.take i).all mayB = true) (fun i => name.size - i) 0 ?_ (sub_cons rfl (sub_cons rfl (sub_nil _))) ?_
  · exact ⟨rfl, Nat.zero_le _, by simp⟩
  rintro i w ⟨h1, h0, h2⟩ ih
  refine run_seq (run_seq (run_region_lit ?_))
  refine o_rd (rd_move rfl) trivial rfl ?_
  refine o_rd (rd_move rfl) trivial rfl ?_
  refine o_rd (rd_lenS T9 rfl) trivial rfl ?_
  refine o_tD (rd_lss rfl rfl) trivial rfl (fun c1 => ?_) (fun c1 => ?_)
  · refine runO_nil (run_cond_true rfl (run_skip (run_seq (run_block (run_seq ?_)))))
    obtain ⟨c, hc⟩ : ∃ c, name.data[i]? = some c := ⟨_, Array.getElem?_eq_getElem (by have : name.data.size = name.size := rfl; omega)⟩
    refine run_region_lit ?_
    refine o_rd (rd_move rfl) trivial rfl ?_
    refine o_rd (rd_move rfl) trivial rfl ?_
    refine o_rd (rd_byte T9 rfl rfl (by omega) hc) trivial rfl ?_
    refine o_rd (rd_assign rfl) trivial rfl ?_
    refine runO_nil (run_seq (run_region_lit ?_))
    refine o_rd (rd_move rfl) trivial rfl ?_
    refine o_tD (rd_lss rfl rfl) trivial rfl (fun c2 => ?_) (fun c2 => ?_)
    · refine o_rd (rd_move rfl) trivial rfl ?_
      refine o_pass rfl rfl rfl rfl ?_
      refine o_pass rfl rfl rfl rfl ?_
      refine o_rd (rd_pick_t rfl rfl) trivial rfl ?_
      refine o_rd (rd_move rfl) trivial rfl ?_
      refine o_rd (rd_move rfl) rfl rfl ?_
      refine o_tD (rd_lss rfl rfl) rfl rfl (fun c3 => ?_) (fun c3 => ?_)
      · refine o_rd (rd_move rfl) rfl rfl ?_
        refine o_pass rfl rfl rfl rfl ?_
        refine o_pass rfl rfl rfl rfl ?_
        refine o_rd (rd_pick_t rfl rfl) rfl rfl ?_
        refine o_rd (rd_pick_t rfl rfl) trivial rfl ?_
        refine o_rd (rd_move rfl) trivial rfl ?_
        refine o_rd (rd_move rfl) rfl rfl ?_
        refine o_tN (rd_neq rfl rfl) rfl rfl (fun c4 => ?_) (fun c4 => ?_)
        · refine o_rd (rd_pick_t rfl rfl) trivial rfl ?_
          refine o_rd (rd_move rfl) trivial rfl ?_
          refine o_rd (rd_move rfl) rfl rfl ?_
          refine o_tN (rd_neq rfl rfl) rfl rfl (fun c5 => ?_) (fun c5 => ?_)
          · refine o_rd (rd_pick_t rfl rfl) trivial rfl ?_
            refine runO_nil (run_cond_true rfl (run_seq (run_region_lit ?_)))
            refine o_rd (rd_assign rfl) trivial rfl ?_
            refine runO_nil ?_
            refine run_ret Tryd.func66 (RV.tmp rfl RV.nil) ?_
            -- ret 0 path L0.c1t.c2t.c3t.c4t.c5t. L []
            exact ⟨by rw [may_bad hc (by rw [mayB_iff]; omega)]; rfl, h1⟩
          · refine o_rd (rd_pick_t rfl rfl) trivial rfl ?_
            refine runO_nil (run_cond_false rfl (run_skip (run_inBlock (run_region_lit ?_))))
            refine o_rd (rd_move rfl) trivial rfl ?_
            refine o_rd (rd_addi rfl rfl (by constructor <;> omega)) trivial rfl ?_
            refine o_rd (rd_assign rfl) trivial rfl ?_
            refine runO_nil ?_
            -- round of loop 0 path L0.c1t.c2t.c3t.c4t.c5f. L []
            exact run_fewer (sub_cons rfl (sub_cons rfl (sub_nil _))) (ih (i + 1) w ⟨h1, by omega, may_step hc h2 (by rw [mayB_iff]; omega)⟩ (by omega))
        · refine o_rd (rd_pick_t rfl rfl) trivial rfl ?_
          refine o_rd (rd_move rfl) trivial rfl ?_
          refine o_pass rfl rfl rfl rfl ?_
          refine o_pass rfl rfl rfl rfl ?_
          refine o_rd (rd_pick_f rfl rfl) trivial rfl ?_
          refine runO_nil (run_cond_false rfl (run_skip (run_inBlock (run_region_lit ?_))))
          refine o_rd (rd_move rfl) trivial rfl ?_
          refine o_rd (rd_addi rfl rfl (by constructor <;> omega)) trivial rfl ?_
          refine o_rd (rd_assign rfl) trivial rfl ?_
          refine runO_nil ?_
          -- round of loop 0 path L0.c1t.c2t.c3t.c4f. L []
          exact run_fewer (sub_cons rfl (sub_cons rfl (sub_nil _))) (ih (i + 1) w ⟨h1, by omega, may_step hc h2 (by rw [mayB_iff]; omega)⟩ (by omega))
      · refine o_rd (rd_move rfl) rfl rfl ?_
        refine o_rd (rd_move rfl) rfl rfl ?_
        refine o_tD (rd_gtr rfl rfl) rfl rfl (fun c6 => ?_) (fun c6 => ?_)
        · refine o_rd (rd_pick_f rfl rfl) rfl rfl ?_
          refine o_rd (rd_pick_t rfl rfl) trivial rfl ?_
          refine o_rd (rd_move rfl) trivial rfl ?_
          refine o_rd (rd_move rfl) rfl rfl ?_
          refine o_tN (rd_neq rfl rfl) rfl rfl (fun c7 => ?_) (fun c7 => ?_)
          · refine o_rd (rd_pick_t rfl rfl) trivial rfl ?_
            refine o_rd (rd_move rfl) trivial rfl ?_
            refine o_rd (rd_move rfl) rfl rfl ?_
            refine o_tN (rd_neq rfl rfl) rfl rfl (fun c8 => ?_) (fun c8 => ?_)
            · refine o_rd (rd_pick_t rfl rfl) trivial rfl ?_
              refine runO_nil (run_cond_true rfl (run_seq (run_region_lit ?_)))
              refine o_rd (rd_assign rfl) trivial rfl ?_
              refine runO_nil ?_
              refine run_ret Tryd.func66 (RV.tmp rfl RV.nil) ?_
              -- ret 1 path L0.c1t.c2t.c3f.c6t.c7t.c8t. L []
              exact ⟨by rw [may_bad hc (by rw [mayB_iff]; omega)]; rfl, h1⟩
            · refine o_rd (rd_pick_t rfl rfl) trivial rfl ?_
              refine runO_nil (run_cond_false rfl (run_skip (run_inBlock (run_region_lit ?_))))
              refine o_rd (rd_move rfl) trivial rfl ?_
              refine o_rd (rd_addi rfl rfl (by constructor <;> omega)) trivial rfl ?_
              refine o_rd (rd_assign rfl) trivial rfl ?_
              refine runO_nil ?_
              -- round of loop 0 path L0.c1t.c2t.c3f.c6t.c7t.c8f. L []
              exact run_fewer (sub_cons rfl (sub_cons rfl (sub_nil _))) (ih (i + 1) w ⟨h1, by omega, may_step hc h2 (by rw [mayB_iff]; omega)⟩ (by omega))
          · refine o_rd (rd_pick_t rfl rfl) trivial rfl ?_
            refine o_rd (rd_move rfl) trivial rfl ?_
            refine o_pass rfl rfl rfl rfl ?_
            refine o_pass rfl rfl rfl rfl ?_
            refine o_rd (rd_pick_f rfl rfl) trivial rfl ?_
            refine runO_nil (run_cond_false rfl (run_skip (run_inBlock (run_region_lit ?_))))
            refine o_rd (rd_move rfl) trivial rfl ?_
            refine o_rd (rd_addi rfl rfl (by constructor <;> omega)) trivial rfl ?_
            refine o_rd (rd_assign rfl) trivial rfl ?_
            refine runO_nil ?_
            -- round of loop 0 path L0.c1t.c2t.c3f.c6t.c7f. L []
            exact run_fewer (sub_cons rfl (sub_cons rfl (sub_nil _))) (ih (i + 1) w ⟨h1, by omega, may_step hc h2 (by rw [mayB_iff]; omega)⟩ (by omega))
        · refine o_rd (rd_pick_f rfl rfl) rfl rfl ?_
          refine o_rd (rd_pick_t rfl rfl) trivial rfl ?_
          refine o_rd (rd_move rfl) trivial rfl ?_
          refine o_pass rfl rfl rfl rfl ?_
          refine o_pass rfl rfl rfl rfl ?_
          refine o_rd (rd_pick_f rfl rfl) trivial rfl ?_
          refine o_rd (rd_move rfl) trivial rfl ?_
          refine o_pass rfl rfl rfl rfl ?_
          refine o_pass rfl rfl rfl rfl ?_
          refine o_rd (rd_pick_f rfl rfl) trivial rfl ?_
          refine runO_nil (run_cond_false rfl (run_skip (run_inBlock (run_region_lit ?_))))
          refine o_rd (rd_move rfl) trivial rfl ?_
          refine o_rd (rd_addi rfl rfl (by constructor <;> omega)) trivial rfl ?_
          refine o_rd (rd_assign rfl) trivial rfl ?_
          refine runO_nil ?_
          -- round of loop 0 path L0.c1t.c2t.c3f.c6f. L []
          exact run_fewer (sub_cons rfl (sub_cons rfl (sub_nil _))) (ih (i + 1) w ⟨h1, by omega, may_step hc h2 (by rw [mayB_iff]; omega)⟩ (by omega))
    · refine o_rd (rd_move rfl) trivial rfl ?_
      refine o_rd (rd_move rfl) rfl rfl ?_
      refine o_tD (rd_gtr rfl rfl) rfl rfl (fun c9 => ?_) (fun c9 => ?_)
      · refine o_rd (rd_pick_f rfl rfl) trivial rfl ?_
        refine o_rd (rd_move rfl) trivial rfl ?_
        refine o_rd (rd_move rfl) rfl rfl ?_
        refine o_tD (rd_lss rfl rfl) rfl rfl (fun c10 => ?_) (fun c10 => ?_)
        · refine o_rd (rd_move rfl) rfl rfl ?_
          refine o_pass rfl rfl rfl rfl ?_
          refine o_pass rfl rfl rfl rfl ?_
          refine o_rd (rd_pick_t rfl rfl) rfl rfl ?_
          refine o_rd (rd_pick_t rfl rfl) trivial rfl ?_
          refine o_rd (rd_move rfl) trivial rfl ?_
          refine o_rd (rd_move rfl) rfl rfl ?_
          refine o_tN (rd_neq rfl rfl) rfl rfl (fun c11 => ?_) (fun c11 => ?_)
          · refine o_rd (rd_pick_t rfl rfl) trivial rfl ?_
            refine o_rd (rd_move rfl) trivial rfl ?_
            refine o_rd (rd_move rfl) rfl rfl ?_
            refine o_tN (rd_neq rfl rfl) rfl rfl (fun c12 => ?_) (fun c12 => ?_)
            · refine o_rd (rd_pick_t rfl rfl) trivial rfl ?_
              refine runO_nil (run_cond_true rfl (run_seq (run_region_lit ?_)))
              refine o_rd (rd_assign rfl) trivial rfl ?_
              refine runO_nil ?_
              refine run_ret Tryd.func66 (RV.tmp rfl RV.nil) ?_
              -- ret 2 path L0.c1t.c2f.c9t.c10t.c11t.c12t. L []
              exact ⟨by rw [may_bad hc (by rw [mayB_iff]; omega)]; rfl, h1⟩
            · refine o_rd (rd_pick_t rfl rfl) trivial rfl ?_
              refine runO_nil (run_cond_false rfl (run_skip (run_inBlock (run_region_lit ?_))))
              refine o_rd (rd_move rfl) trivial rfl ?_
              refine o_rd (rd_addi rfl rfl (by constructor <;> omega)) trivial rfl ?_
              refine o_rd (rd_assign rfl) trivial rfl ?_
              refine runO_nil ?_
              -- round of loop 0 path L0.c1t.c2f.c9t.c10t.c11t.c12f. L []
              exact run_fewer (sub_cons rfl (sub_cons rfl (sub_nil _))) (ih (i + 1) w ⟨h1, by omega, may_step hc h2 (by rw [mayB_iff]; omega)⟩ (by omega))
          · refine o_rd (rd_pick_t rfl rfl) trivial rfl ?_
            refine o_rd (rd_move rfl) trivial rfl ?_
            refine o_pass rfl rfl rfl rfl ?_
            refine o_pass rfl rfl rfl rfl ?_
            refine o_rd (rd_pick_f rfl rfl) trivial rfl ?_
            refine runO_nil (run_cond_false rfl (run_skip (run_inBlock (run_region_lit ?_))))
            refine o_rd (rd_move rfl) trivial rfl ?_
            refine o_rd (rd_addi rfl rfl (by constructor <;> omega)) trivial rfl ?_
            refine o_rd (rd_assign rfl) trivial rfl ?_
            refine runO_nil ?_
            -- round of loop 0 path L0.c1t.c2f.c9t.c10t.c11f. L []
            exact run_fewer (sub_cons rfl (sub_cons rfl (sub_nil _))) (ih (i + 1) w ⟨h1, by omega, may_step hc h2 (by rw [mayB_iff]; omega)⟩ (by omega))
        · refine o_rd (rd_move rfl) rfl rfl ?_
          refine o_rd (rd_move rfl) rfl rfl ?_
          refine o_tD (rd_gtr rfl rfl) rfl rfl (fun c13 => ?_) (fun c13 => ?_)
          · refine o_rd (rd_pick_f rfl rfl) rfl rfl ?_
            refine o_rd (rd_pick_t rfl rfl) trivial rfl ?_
            refine o_rd (rd_move rfl) trivial rfl ?_
            refine o_rd (rd_move rfl) rfl rfl ?_
            refine o_tN (rd_neq rfl rfl) rfl rfl (fun c14 => ?_) (fun c14 => ?_)
            · refine o_rd (rd_pick_t rfl rfl) trivial rfl ?_
              refine o_rd (rd_move rfl) trivial rfl ?_
              refine o_rd (rd_move rfl) rfl rfl ?_
              refine o_tN (rd_neq rfl rfl) rfl rfl (fun c15 => ?_) (fun c15 => ?_)
              · refine o_rd (rd_pick_t rfl rfl) trivial rfl ?_
                refine runO_nil (run_cond_true rfl (run_seq (run_region_lit ?_)))
                refine o_rd (rd_assign rfl) trivial rfl ?_
                refine runO_nil ?_
                refine run_ret Tryd.func66 (RV.tmp rfl RV.nil) ?_
                -- ret 3 path L0.c1t.c2f.c9t.c10f.c13t.c14t.c15t. L []
                exact ⟨by rw [may_bad hc (by rw [mayB_iff]; omega)]; rfl, h1⟩
              · refine o_rd (rd_pick_t rfl rfl) trivial rfl ?_
                refine runO_nil (run_cond_false rfl (run_skip (run_inBlock (run_region_lit ?_))))
                refine o_rd (rd_move rfl) trivial rfl ?_
                refine o_rd (rd_addi rfl rfl (by constructor <;> omega)) trivial rfl ?_
                refine o_rd (rd_assign rfl) trivial rfl ?_
                refine runO_nil ?_
                -- round of loop 0 path L0.c1t.c2f.c9t.c10f.c13t.c14t.c15f. L []
                exact run_fewer (sub_cons rfl (sub_cons rfl (sub_nil _))) (ih (i + 1) w ⟨h1, by omega, may_step hc h2 (by rw [mayB_iff]; omega)⟩ (by omega))
            · refine o_rd (rd_pick_t rfl rfl) trivial rfl ?_
              refine o_rd (rd_move rfl) trivial rfl ?_
              refine o_pass rfl rfl rfl rfl ?_
              refine o_pass rfl rfl rfl rfl ?_
              refine o_rd (rd_pick_f rfl rfl) trivial rfl ?_
              refine runO_nil (run_cond_false rfl (run_skip (run_inBlock (run_region_lit ?_))))
              refine o_rd (rd_move rfl) trivial rfl ?_
              refine o_rd (rd_addi rfl rfl (by constructor <;> omega)) trivial rfl ?_
              refine o_rd (rd_assign rfl) trivial rfl ?_
              refine runO_nil ?_
              -- round of loop 0 path L0.c1t.c2f.c9t.c10f.c13t.c14f. L []
              exact run_fewer (sub_cons rfl (sub_cons rfl (sub_nil _))) (ih (i + 1) w ⟨h1, by omega, may_step hc h2 (by rw [mayB_iff]; omega)⟩ (by omega))
          · refine o_rd (rd_pick_f rfl rfl) rfl rfl ?_
            refine o_rd (rd_pick_t rfl rfl) trivial rfl ?_
            refine o_rd (rd_move rfl) trivial rfl ?_
            refine o_pass rfl rfl rfl rfl ?_
            refine o_pass rfl rfl rfl rfl ?_
            refine o_rd (rd_pick_f rfl rfl) trivial rfl ?_
            refine o_rd (rd_move rfl) trivial rfl ?_
            refine o_pass rfl rfl rfl rfl ?_
            refine o_pass rfl rfl rfl rfl ?_
            refine o_rd (rd_pick_f rfl rfl) trivial rfl ?_
            refine runO_nil (run_cond_false rfl (run_skip (run_inBlock (run_region_lit ?_))))
            refine o_rd (rd_move rfl) trivial rfl ?_
            refine o_rd (rd_addi rfl rfl (by constructor <;> omega)) trivial rfl ?_
            refine o_rd (rd_assign rfl) trivial rfl ?_
            refine runO_nil ?_
            -- round of loop 0 path L0.c1t.c2f.c9t.c10f.c13f. L []
            exact run_fewer (sub_cons rfl (sub_cons rfl (sub_nil _))) (ih (i + 1) w ⟨h1, by omega, may_step hc h2 (by rw [mayB_iff]; omega)⟩ (by omega))
      · refine o_rd (rd_pick_f rfl rfl) trivial rfl ?_
        refine o_rd (rd_move rfl) trivial rfl ?_
        refine o_pass rfl rfl rfl rfl ?_
        refine o_pass rfl rfl rfl rfl ?_
        refine o_pass rfl rfl rfl rfl ?_
        refine o_pass rfl rfl rfl rfl ?_
        refine o_pass rfl rfl rfl rfl ?_
        refine o_pass rfl rfl rfl rfl ?_
        refine o_rd (rd_pick_f rfl rfl) trivial rfl ?_
        refine o_rd (rd_move rfl) trivial rfl ?_
        refine o_pass rfl rfl rfl rfl ?_
        refine o_pass rfl rfl rfl rfl ?_
        refine o_rd (rd_pick_f rfl rfl) trivial rfl ?_
        refine o_rd (rd_move rfl) trivial rfl ?_
        refine o_pass rfl rfl rfl rfl ?_
        refine o_pass rfl rfl rfl rfl ?_
        refine o_rd (rd_pick_f rfl rfl) trivial rfl ?_
        refine runO_nil (run_cond_false rfl (run_skip (run_inBlock (run_region_lit ?_))))
        refine o_rd (rd_move rfl) trivial rfl ?_
        refine o_rd (rd_addi rfl rfl (by constructor <;> omega)) trivial rfl ?_
        refine o_rd (rd_assign rfl) trivial rfl ?_
        refine runO_nil ?_
        -- round of loop 0 path L0.c1t.c2f.c9f. L []
        exact run_fewer (sub_cons rfl (sub_cons rfl (sub_nil _))) (ih (i + 1) w ⟨h1, by omega, may_step hc h2 (by rw [mayB_iff]; omega)⟩ (by omega))
  · refine runO_nil (run_cond_false rfl (run_exit rfl (run_seq (run_region_lit ?_))))
    refine o_rd (rd_move rfl) trivial rfl ?_
    refine o_rd (rd_lenS T9 rfl) trivial rfl ?_
    refine o_tD (rd_geq rfl rfl) trivial rfl (fun c16 => ?_) (fun c16 => ?_)
    · refine o_rd (rd_move rfl) trivial rfl ?_
      refine o_rd (rd_move rfl) rfl rfl ?_
      refine o_rd (rd_lenS T9 rfl) rfl rfl ?_
      refine o_rd (rd_leq rfl rfl) rfl rfl ?_
      refine o_rd (rd_pick_t rfl rfl) trivial rfl ?_
      refine o_rd (rd_assign rfl) trivial rfl ?_
      refine runO_nil ?_
      refine run_ret Tryd.func66 (RV.tmp rfl RV.nil) ?_
      -- ret 4 path L0.c1f.c16t. L []
      rw [may_end (by omega) h2, decide_eq_true (show 1 ≤ name.size by omega), Bool.true_and]
      exact ⟨congrArg Value.bool (decide_eq_decide.2 (by omega)), h1⟩
    · refine o_rd (rd_move rfl) trivial rfl ?_
      refine o_pass rfl rfl rfl rfl ?_
      refine o_pass rfl rfl rfl rfl ?_
      refine o_pass rfl rfl rfl rfl ?_
      refine o_rd (rd_pick_f rfl rfl) trivial rfl ?_
      refine o_rd (rd_assign rfl) trivial rfl ?_
      refine runO_nil ?_
      refine run_ret Tryd.func66 (RV.tmp rfl RV.nil) ?_
      -- ret 5 path L0.c1f.c16f. L []
      exact ⟨by rw [may_no (by omega)]; rfl, h1⟩

theorem ref_write {b : Nat} {W : DiskV} {w : World} {R : List Hp} (h : Sat w (refR b W :: R)) :
    FnC Tryd.prog 67 [(.pointer (some ⟨b, 0, none⟩))] w fun v w' => v = .bool (!W.stop) ∧ Sat w' (refR b (if W.stop then W else W.went) :: R) := by
  obtain ⟨a, n, c, gs, hcut, hn, hnc, hcm, hkg, h⟩ := refR_open h
  subst hn
  refine fnC_of_run Tryd.func67 rfl Tryd.ntmps67 (Nat.le_of_ble_eq_true rfl) (fun cs => ?_)
  refine run_seq (run_region_lit ?_)
  refine o_rd (rd_assign rfl) trivial rfl ?_
  refine runO_nil (run_seq (run_seq (run_region_lit ?_)))
  refine o_rd (rd_move rfl) trivial rfl ?_
  refine o_rd (rd_nil rfl) trivial rfl ?_
  refine o_rd (rd_fieldA F73_2 S3 rfl) trivial rfl ?_
  refine o_ld rfl (h.at_ 0 rfl) T3 rfl rfl trivial rfl ?_
  refine o_tD (rd_eql rfl rfl) trivial rfl (fun c1 => ?_) (fun c1 => ?_)
  · refine runO_nil (run_cond_true rfl (run_seq (run_region_lit ?_)))
    refine o_rd (rd_assign rfl) trivial rfl ?_
    refine runO_nil ?_
    refine run_ret Tryd.func67 (RV.tmp rfl RV.nil) ?_
    -- ret 0 path c1t. L ['d', 'fl', 'vals']
    rw [ref_stop c1, if_pos rfl]
    exact ⟨rfl, refR_close hcut h⟩
  · refine runO_nil (run_cond_false rfl (run_skip (run_seq (run_seq (run_region_lit ?_)))))
    refine o_rd (rd_move rfl) trivial rfl ?_
    refine o_rd (rd_nil rfl) trivial rfl ?_
    refine o_rd (rd_fieldA F73_2 S3 rfl) trivial rfl ?_
    refine o_ld rfl (h.at_ 0 rfl) T3 rfl rfl trivial rfl ?_
    refine o_tD (rd_gtr rfl rfl) trivial rfl (fun c2 => ?_) (fun c2 => ?_)
    · refine runO_nil (run_cond_true rfl (run_region_lit ?_))
      refine o_rd (rd_move rfl) trivial rfl ?_
      refine o_rd (rd_nil rfl) trivial rfl ?_
      refine o_rd (rd_fieldA F73_2 S3 rfl) trivial rfl ?_
      refine o_ld rfl (h.at_ 0 rfl) T3 rfl rfl trivial rfl ?_
      refine o_rd (rd_sub rfl rfl) trivial rfl ?_
      refine o_rd (rd_nil rfl) trivial rfl ?_
      refine o_rd (rd_fieldA F73_2 S3 rfl) trivial rfl ?_
      refine o_ef trivial (ef_store S3 0 rfl rfl h rfl rfl rfl (Nat.le_of_ble_eq_true rfl) rfl (fun w h => ?_))
      refine runO_nil (run_seq (run_region_lit ?_))
      refine o_rd (rd_move rfl) trivial rfl ?_
      refine o_rd (rd_nil rfl) trivial rfl ?_
      refine o_rd (rd_fieldA F73_1 S3 rfl) trivial rfl ?_
      refine o_ld rfl (h.at_ 0 rfl) T3 rfl rfl trivial rfl ?_
      refine o_rd (rd_add rfl rfl) trivial rfl ?_
      refine o_rd (rd_nil rfl) trivial rfl ?_
      refine o_rd (rd_fieldA F73_1 S3 rfl) trivial rfl ?_
      refine o_ef trivial (ef_store S3 0 rfl rfl h rfl rfl rfl (Nat.le_of_ble_eq_true rfl) rfl (fun w h => ?_))
      refine runO_nil (run_seq (run_region_lit ?_))
      refine o_rd (rd_assign rfl) trivial rfl ?_
      refine runO_nil ?_
      refine run_ret Tryd.func67 (RV.tmp rfl RV.nil) ?_
      -- ret 1 path c1f.c2t. L ['d', 'fl', 'vals']
      have hs := ref_go c1
      have hw := ref_cut c2
      have e : (if W.went.cut then W.went.left else -1) = IntKind.i64.wrap ((if W.cut then W.left else -1) - 1) := by simp [DiskV.went, hw.1]
      rw [← e] at h
      rw [hs, if_neg Bool.false_ne_true]
      exact ⟨rfl, refR_close (W := W.went) (went_cut hcut hs) h⟩
    · refine runO_nil (run_cond_false rfl (run_skip (run_seq (run_region_lit ?_))))
      refine o_rd (rd_move rfl) trivial rfl ?_
      refine o_rd (rd_nil rfl) trivial rfl ?_
      refine o_rd (rd_fieldA F73_1 S3 rfl) trivial rfl ?_
      refine o_ld rfl (h.at_ 0 rfl) T3 rfl rfl trivial rfl ?_
      refine o_rd (rd_add rfl rfl) trivial rfl ?_
      refine o_rd (rd_nil rfl) trivial rfl ?_
      refine o_rd (rd_fieldA F73_1 S3 rfl) trivial rfl ?_
      refine o_ef trivial (ef_store S3 0 rfl rfl h rfl rfl rfl (Nat.le_of_ble_eq_true rfl) rfl (fun w h => ?_))
      refine runO_nil (run_seq (run_region_lit ?_))
      refine o_rd (rd_assign rfl) trivial rfl ?_
      refine runO_nil ?_
      refine run_ret Tryd.func67 (RV.tmp rfl RV.nil) ?_
      -- ret 2 path c1f.c2f. L ['d', 'fl', 'vals']
      have hs := ref_go c1
      have hw := ref_not hcut c1 c2
      have e : (if W.went.cut then W.went.left else -1) = (if W.cut then W.left else -1) := by simp [DiskV.went, hw]
      rw [← e] at h
      rw [hs, if_neg Bool.false_ne_true]
      exact ⟨rfl, refR_close (W := W.went) (went_cut hcut hs) h⟩

theorem ref_take {b : Nat} {W : DiskV} {name : ByteArray} {w : World} {R : List Hp} (hlen : W.files.length ≤ 1000000) (h : Sat w (refR b W :: R)) :
    FnC Tryd.prog 70 [(.pointer (some ⟨b, 0, none⟩)), .string name] w fun v w' => Sat w' (refR b { W with files := W.files.filter fun x => off name x.1 } :: R) := by
  obtain ⟨a, n, c, gs, hcut, hn, hnc, hcm, hkg, h⟩ := refR_open h
  subst hn
  have hgl := len_of_keys hkg
  refine fnC_of_run Tryd.func70 rfl Tryd.ntmps70 (Nat.le_of_ble_eq_true rfl) (fun cs => ?_)
  refine run_seq (run_region_lit ?_)
  refine o_rd (rd_assign rfl) trivial rfl ?_
  refine runO_nil (run_seq (run_seq (run_region_lit ?_)))
  refine o_rd (rd_move rfl) trivial rfl ?_
  refine o_rd (rd_nil rfl) trivial rfl ?_
  refine o_rd (rd_fieldA F73_0 S71 rfl) trivial rfl ?_
  refine o_ld rfl (h.at_ 0 rfl) T71 rfl rfl trivial rfl ?_
  refine o_rd (rd_len (u := 0) T71 rfl) trivial rfl ?_
  refine o_rd (rd_move rfl) trivial rfl ?_
  refine runO_nil (run_block ?_)
  refine run_loop (σ := Nat × List (ByteArray × Value) × Option Addr × Nat) (fun (i, hs, a4, c4) => [(0, (.pointer (some ⟨b, 0, none⟩))), (1, .string name), (4, .slice a4 hs.length c4), (10, .slice a gs.length c), (11, .int .i64 gs.length), (12, .int .i64 (i : Nat))]) (fun (i, hs, a4, c4) w => Sat w (OwnS 76 2 (.slice a4 hs.length c4) (fcells hs) :: pt b (.cells #[.slice a gs.length c, .int .i64 W.writes, .int .i64 (if W.cut then W.left else -1)] 73) :: OwnS 76 2 (.slice a gs.length c) (fcells gs) :: valsR gs W.files :: R) ∧ i ≤ gs.length ∧ hs.length ≤ i ∧ hs = (gs.take i).filter fun x => off name x.1) (fun (i, hs, a4, c4) => gs.length - i) (0, [], none, 0) ?_ (sub_cons rfl (sub_cons rfl (sub_cons rfl (sub_cons rfl (sub_cons rfl (sub_cons rfl (sub_nil _))))))) ?_
  · exact ⟨Sat.lone (own_none none) h, Nat.zero_le _, Nat.le_refl _, by simp⟩
  clear h
  rintro ⟨i, hs, a4, c4⟩ w ⟨h, hi, hil, hf⟩ ih
  refine run_seq (run_region_lit ?_)
  refine o_tD (rd_lss rfl rfl) trivial rfl (fun c1 => ?_) (fun c1 => ?_)
  · refine runO_nil (run_seq (run_cond_true rfl (run_skip (run_seq (run_block (run_seq ?_))))))
    obtain ⟨bb, C, fr, nm, fa, fl, fc, f, ea, hgi, hfi, hfl, hfc, hfm, hb, hcp, hcb, hrow⟩ := file_at 2 3 h rfl rfl (i := i) (by omega)
    subst ea
    refine run_region_lit ?_
    refine o_rd (rd_idx T71 S76 rfl rfl (by omega) (by omega)) trivial rfl ?_
    refine o_ldG rfl hb G76 hcp trivial rfl ?_
    refine o_ef trivial (ef_alloc S76 rfl h (fun t w h => ?_))
    refine o_ef trivial (ef_store S76 0 rfl rfl h rfl rfl rfl (Nat.le_of_ble_eq_true rfl) rfl (fun w h => ?_))
    refine runO_nil (run_seq (run_region_lit ?_))
    refine o_rd (rd_fieldA F76_0 S9 rfl) trivial rfl ?_
    refine o_ld rfl (h.at_ 0 rfl) T9 rfl rfl trivial rfl ?_
    refine o_rd (rd_move rfl) trivial rfl ?_
    refine o_tN (rd_neqS rfl rfl) trivial rfl (fun c2 => ?_) (fun c2 => ?_)
    · refine runO_nil (run_cond_true rfl (run_region_lit ?_))
      refine o_rd (rd_move rfl) trivial rfl ?_
      refine o_ldG rfl (h.at_ 0 rfl) G76 rfl trivial rfl ?_
      refine o_ef trivial (ef_buildSlice Tryd.underlying71 S76 rfl rfl rfl h rfl (fun s w h => ?_))
      refine o_ef trivial (ef_append Tryd.underlying71 N71 S76 rfl 2 rfl rfl h rfl (Src.slice (h.rowPt 0 rfl) rfl rfl) (fcells_len hs) rfl (by omega) (by omega) rfl (fun a5 w h => ?_))
      obtain ⟨a6, n6, c6, rfl, hl6, hc6, hm6, _⟩ := Sat.ownRow 2 h rfl
      refine o_rd (rd_assign rfl) trivial rfl ?_
      refine runO_nil (run_inBlock (run_region_lit ?_))
      refine o_rd (rd_addi rfl rfl (by constructor <;> omega)) trivial rfl ?_
      refine o_rd (rd_move rfl) trivial rfl ?_
      refine runO_nil ?_
      -- round of loop 0 path L0.c1t.c2t. L ['s', 't', 'hs', 'd', 'fl', 'vals']
      have e6 : n6 = (hs ++ [(nm, Value.slice fa fl fc)]).length := by
        have e7 : (fcells hs ++ fcells [(nm, Value.slice fa fl fc)]).length = n6 * 2 := hl6
        rw [← fcells_append, fcells_len] at e7
        omega
      subst e6
      exact run_fewer (sub_cons rfl (sub_cons rfl (sub_cons rfl (sub_cons rfl (sub_cons rfl (sub_cons rfl (sub_nil _))))))) (ih (i + 1, hs ++ [(nm, .slice fa fl fc)], a6, c6) w ⟨by simp only [fcells_append]; exact (Sat.out 0 (Sat.out 1 h)), by omega, by simp only [List.length_append, List.length_cons, List.length_nil]; omega, by rw [filter_on hgi c2, ← hf]⟩ (by simp only []; omega))
    · refine runO_nil (run_cond_false rfl (run_skip (run_inBlock (run_region_lit ?_))))
      refine o_rd (rd_addi rfl rfl (by constructor <;> omega)) trivial rfl ?_
      refine o_rd (rd_move rfl) trivial rfl ?_
      refine runO_nil ?_
      -- round of loop 0 path L0.c1t.c2f. L ['t', 'hs', 'd', 'fl', 'vals']
      exact run_fewer (sub_cons rfl (sub_cons rfl (sub_cons rfl (sub_cons rfl (sub_cons rfl (sub_cons rfl (sub_nil _))))))) (ih (i + 1, hs, a4, c4) w ⟨(Sat.out 0 h), by omega, by omega, by rw [filter_off hgi c2, ← hf]⟩ (by simp only []; omega))
  · refine runO_nil (run_seq (run_cond_false rfl (run_exit rfl (run_region_lit ?_))))
    refine o_rd (rd_move rfl) trivial rfl ?_
    refine o_rd (rd_move rfl) trivial rfl ?_
    refine o_rd (rd_nil rfl) trivial rfl ?_
    refine o_rd (rd_fieldA F73_0 S71 rfl) trivial rfl ?_
    refine o_ef trivial (ef_store S71 1 rfl rfl h rfl rfl rfl (Nat.le_of_ble_eq_true rfl) rfl (fun w h => ?_))
    refine runO_nil ?_
    refine run_end Tryd.func70 RV.nil ?_
    -- ret 0 path L0.c1f. L ['hs', 'd', 'fl', 'vals']
    have hh : hs = gs.filter fun x => off name x.1 := by rw [hf, List.take_of_length_le (by omega)]
    subst hh
    replace h := Sat.conv 3 h rfl (fun g x => vals_filter (off name) x)
    exact refR_close (W := { W with files := W.files.filter fun x => off name x.1 }) hcut (Sat.bring 2 (Sat.bring 1 (Sat.bring 2 (Sat.out 2 h))))

theorem ref_Remove {b : Nat} {W : DiskV} {name : ByteArray} {w : World} {R : List Hp} (hlen : W.files.length ≤ 1000000) (h : Sat w (refR b W :: R)) :
    FnC Tryd.prog 43 [(.pointer (some ⟨b, 0, none⟩)), .string name] w fun v w' => v = .int .i64 (W.rremove name).2 ∧ Sat w' (refR b (W.rremove name).1 :: R) := by
  refine fnC_of_run Tryd.func43 rfl Tryd.ntmps43 (Nat.le_of_ble_eq_true rfl) (fun cs => ?_)
  refine run_seq (run_region_lit ?_)
  refine o_rd (rd_assign rfl) trivial rfl ?_
  refine runO_nil (run_seq (run_block (run_seq (run_region_lit ?_))))
  refine o_rd (rd_move rfl) trivial rfl ?_
  refine o_rd (rd_move rfl) trivial rfl ?_
  refine o_ef trivial (ef_call (Tryd.call65) rfl rfl ?_)
  refine FnC.mono (ref_Find h) ?_
  rintro _ w ⟨rfl, h⟩
  refine o_tD (rd_lss rfl rfl) trivial rfl (fun c1 => ?_) (fun c1 => ?_)
  · refine o_rd (rd_assign rfl) trivial rfl ?_
    refine runO_nil (run_cond_true rfl (run_seq (run_region_lit ?_)))
    refine o_rd (rd_assign rfl) trivial rfl ?_
    refine runO_nil ?_
    refine run_ret Tryd.func43 (RV.tmp rfl RV.nil) ?_
    -- ret 0 path c1t. L ['W']
    rw [rremove_none (findI_neg c1)]
    exact ⟨rfl, h⟩
  · refine o_rd (rd_assign rfl) trivial rfl ?_
    refine runO_nil (run_cond_false rfl (run_seq (run_region_lit ?_)))
    refine o_rd (rd_move rfl) trivial rfl ?_
    refine o_ef trivial (ef_call (Tryd.call67) rfl rfl ?_)
    refine FnC.mono (ref_write h) ?_
    rintro _ w ⟨rfl, h⟩
    refine o_know (b := _) 12 rfl (fun c2 => ?_) (fun c2 => ?_)
    · have hs : W.stop = false := by simpa using c2
      rw [hs, if_neg Bool.false_ne_true] at h
      refine o_rd (rd_not rfl) trivial rfl ?_
      refine o_rd (rd_assign rfl) trivial rfl ?_
      refine runO_nil (run_cond_false rfl (run_skip (run_inBlock (run_seq (run_region_lit ?_)))))
      refine o_rd (rd_move rfl) trivial rfl ?_
      refine o_rd (rd_move rfl) trivial rfl ?_
      refine o_ef trivial (ef_call (Tryd.call70) rfl rfl ?_)
      refine FnC.mono (ref_take (W := W.went) hlen h) ?_
      rintro _ w h
      refine runO_nil (run_seq (run_region_lit ?_))
      refine o_rd (rd_assign rfl) trivial rfl ?_
      refine runO_nil ?_
      refine run_ret Tryd.func43 (RV.tmp rfl RV.nil) ?_
      -- ret 1 path c1f.c2t. L ['W']
      obtain ⟨f, hf, _⟩ := findI_pos c1
      rw [rremove_go hf, raw_go hs]
      exact ⟨rfl, h⟩
    · have hs : W.stop = true := by simpa using c2
      rw [hs, if_pos rfl] at h
      refine o_rd (rd_not rfl) trivial rfl ?_
      refine o_rd (rd_assign rfl) trivial rfl ?_
      refine runO_nil (run_cond_true rfl (run_seq (run_region_lit ?_)))
      refine o_rd (rd_assign rfl) trivial rfl ?_
      refine runO_nil ?_
      refine run_ret Tryd.func43 (RV.tmp rfl RV.nil) ?_
      -- ret 2 path c1f.c2f. L ['W']
      obtain ⟨f, hf, _⟩ := findI_pos c1
      rw [rremove_go hf, raw_stop hs]
      exact ⟨rfl, h⟩

theorem ref_Truncate {b : Nat} {W : DiskV} {name : ByteArray} {n0 : Int} {w : World} {R : List Hp} (h : Sat w (refR b W :: R)) :
    FnC Tryd.prog 39 [(.pointer (some ⟨b, 0, none⟩)), .string name, .int .i64 n0] w fun v w' => v = .int .i64 (W.truncate name n0).2 ∧ Sat w' (refR b (W.truncate name n0).1 :: R) := by
  refine fnC_of_run Tryd.func39 rfl Tryd.ntmps39 (Nat.le_of_ble_eq_true rfl) (fun cs => ?_)
  refine run_seq (run_region_lit ?_)
  refine o_rd (rd_assign rfl) trivial rfl ?_
  refine runO_nil (run_seq (run_region_lit ?_))
  refine o_rd (rd_move rfl) trivial rfl ?_
  refine o_rd (rd_move rfl) trivial rfl ?_
  refine o_ef trivial (ef_call (Tryd.call65) rfl rfl ?_)
  refine FnC.mono (ref_Find h) ?_
  rintro _ w ⟨rfl, h⟩
  refine o_rd (rd_assign rfl) trivial rfl ?_
  refine runO_nil (run_seq (run_block (run_seq (run_region_lit ?_))))
  refine o_rd (rd_move rfl) trivial rfl ?_
  refine o_tD (rd_lss rfl rfl) trivial rfl (fun c1 => ?_) (fun c1 => ?_)
  · refine o_rd (rd_assign rfl) trivial rfl ?_
    refine runO_nil (run_cond_true rfl (run_seq (run_region_lit ?_)))
    refine o_rd (rd_assign rfl) trivial rfl ?_
    refine runO_nil ?_
    refine run_ret Tryd.func39 (RV.tmp rfl RV.nil) ?_
    -- ret 0 path c1t. L ['W']
    rw [truncate_none (findI_neg c1)]
    exact ⟨rfl, h⟩
  · refine o_rd (rd_assign rfl) trivial rfl ?_
    refine runO_nil (run_cond_false rfl (run_seq ?_))
    obtain ⟨f, hf, hk⟩ := findI_pos c1
    rw [hk]
    obtain ⟨a, n, c, gs, hcut, hn, hnc, hcm, hkg, h⟩ := refR_open h
    subst hn
    obtain ⟨bb, C, fr, fa, fl, fc, ea, hg, hpg, hpl, hfl, hfc, hfm, hb, hcb⟩ := file_of 1 2 h rfl rfl hf
    subst ea
    refine run_region_lit ?_
    refine o_rd (rd_move rfl) trivial rfl ?_
    refine o_tD (rd_lss rfl rfl) trivial rfl (fun c2 => ?_) (fun c2 => ?_)
    · refine o_rd (rd_move rfl) trivial rfl ?_
      refine o_pass rfl rfl rfl rfl ?_
      refine o_pass rfl rfl rfl rfl ?_
      refine o_pass rfl rfl rfl rfl ?_
      refine o_pass rfl rfl rfl rfl ?_
      refine o_pass rfl rfl rfl rfl ?_
      refine o_pass rfl rfl rfl rfl ?_
      refine o_pass rfl rfl rfl rfl ?_
      refine o_pass rfl rfl rfl rfl ?_
      refine o_pass rfl rfl rfl rfl ?_
      refine o_pass rfl rfl rfl rfl ?_
      refine o_pass rfl rfl rfl rfl ?_
      refine o_rd (rd_pick_t rfl rfl) trivial rfl ?_
      refine o_rd (rd_assign rfl) trivial rfl ?_
      refine runO_nil (run_cond_true rfl (run_seq (run_region_lit ?_)))
      refine o_rd (rd_assign rfl) trivial rfl ?_
      refine runO_nil ?_
      refine run_ret Tryd.func39 (RV.tmp rfl RV.nil) ?_
      -- ret 1 path c1f.c2t. L ['d', 'fl', 'vals']
      rw [truncate_bad hf (by omega)]
      exact ⟨rfl, refR_close hcut h⟩
    · refine o_rd (rd_move rfl) trivial rfl ?_
      refine o_rd (rd_move rfl) rfl rfl ?_
      refine o_rd (rd_move rfl) rfl rfl ?_
      refine o_rd (rd_nil rfl) rfl rfl ?_
      refine o_rd (rd_fieldA F73_0 S71 rfl) rfl rfl ?_
      refine o_ld rfl (h.at_ 0 rfl) T71 rfl rfl rfl rfl ?_
      refine o_rd (rd_move rfl) rfl rfl ?_
      refine o_rd (rd_idx T71 S76 rfl rfl (by omega) (by omega)) rfl rfl ?_
      refine o_rd (rd_fieldA F76_1 S32 rfl) rfl rfl ?_
      refine o_ld rfl hb T32 rfl hcb rfl rfl ?_
      refine o_rd (rd_len (u := 0) T32 rfl) rfl rfl ?_
      refine o_tD (rd_gtr rfl rfl) rfl rfl (fun c3 => ?_) (fun c3 => ?_)
      · refine o_rd (rd_pick_f rfl rfl) trivial rfl ?_
        refine o_rd (rd_assign rfl) trivial rfl ?_
        refine runO_nil (run_cond_true rfl (run_seq (run_region_lit ?_)))
        refine o_rd (rd_assign rfl) trivial rfl ?_
        refine runO_nil ?_
        refine run_ret Tryd.func39 (RV.tmp rfl RV.nil) ?_
        -- ret 2 path c1f.c2f.c3t. L ['d', 'fl', 'vals']
        rw [truncate_bad hf (by omega)]
        exact ⟨rfl, refR_close hcut h⟩
      · refine o_rd (rd_pick_f rfl rfl) trivial rfl ?_
        refine o_rd (rd_assign rfl) trivial rfl ?_
        refine runO_nil (run_cond_false rfl (run_seq (run_region_lit ?_)))
        refine o_rd (rd_move rfl) trivial rfl ?_
        refine o_rd (rd_move rfl) trivial rfl ?_
        refine o_rd (rd_nil rfl) trivial rfl ?_
        refine o_rd (rd_fieldA F73_0 S71 rfl) trivial rfl ?_
        refine o_ld rfl (h.at_ 0 rfl) T71 rfl rfl trivial rfl ?_
        refine o_rd (rd_move rfl) trivial rfl ?_
        refine o_rd (rd_idx T71 S76 rfl rfl (by omega) (by omega)) trivial rfl ?_
        refine o_rd (rd_fieldA F76_1 S32 rfl) trivial rfl ?_
        refine o_ld rfl hb T32 rfl hcb trivial rfl ?_
        refine o_rd (rd_len (u := 0) T32 rfl) trivial rfl ?_
        refine o_tD (rd_eql rfl rfl) trivial rfl (fun c4 => ?_) (fun c4 => ?_)
        · refine o_rd (rd_assign rfl) trivial rfl ?_
          refine runO_nil (run_cond_true rfl (run_seq (run_region_lit ?_)))
          refine o_rd (rd_assign rfl) trivial rfl ?_
          refine runO_nil ?_
          refine run_ret Tryd.func39 (RV.tmp rfl RV.nil) ?_
          -- ret 3 path c1f.c2f.c3f.c4t. L ['d', 'fl', 'vals']
          rw [truncate_same hf (by omega)]
          exact ⟨rfl, refR_close hcut h⟩
        · refine o_rd (rd_assign rfl) trivial rfl ?_
          refine runO_nil (run_cond_false rfl (run_seq ?_))
          replace h := refR_close hcut h
          refine run_region_lit ?_
          refine o_rd (rd_move rfl) trivial rfl ?_
          refine o_ef trivial (ef_call (Tryd.call67) rfl rfl ?_)
          refine FnC.mono (ref_write h) ?_
          rintro _ w ⟨rfl, h⟩
          refine o_know (b := _) 44 rfl (fun c5 => ?_) (fun c5 => ?_)
          · have hs : W.stop = false := by simpa using c5
            rw [hs, if_neg Bool.false_ne_true] at h
            refine o_rd (rd_not rfl) trivial rfl ?_
            refine o_rd (rd_assign rfl) trivial rfl ?_
            refine runO_nil (run_cond_false rfl (run_skip (run_inBlock (run_seq ?_))))
            clear hb hcb hcut hkg hnc hcm hpg hg
            obtain ⟨a, n, c, gs, hcut, hn, hnc, hcm, hkg, h⟩ := refR_open (W := W.went) h
            subst hn
            obtain ⟨bb2, C2, fr2, fa2, fl2, fc2, ea, hg, hpg, hpl2, hfl2, hfc2, hfm2, _, hcb, rok, h⟩ := file_open (fs := W.files) 1 2 h rfl rfl hf
            subst ea
            refine run_drawS 17 2 [(0, true), (1, true), (2, true), (3, true), (4, true), (5, true), (6, true), (7, true), (8, true), (9, true), (10, true), (11, true), (12, true), (13, true), (14, true), (15, true), (16, true), (17, false)] [(_, true), (_, true), (_, true), (_, true), (_, true), (_, true), (_, true), (_, true), (_, true), (_, true), (_, true), (_, true), (_, true), (_, true), (_, true), (_, true), (_, true), (_, false)] h (Holds.cons (h.at_ 0 rfl) (Holds.cons (h.at_ 1 rfl) (Holds.nil _))) mixed (by kernel_rfl) rfl ?_
            intro w h hK
            refine d_rd (rd_move rfl) hK trivial rfl ?_
            refine d_rd (rd_nil rfl) hK trivial rfl ?_
            refine d_rd (rd_fieldA F73_0 S71 rfl) hK trivial rfl ?_
            refine d_ld rfl 0 rfl T71 rfl rfl hK trivial rfl ?_
            refine d_rd (rd_move rfl) hK trivial rfl ?_
            refine d_rd (rd_move rfl) hK trivial rfl ?_
            refine d_rd (rd_nil rfl) hK trivial rfl ?_
            refine d_rd (rd_fieldA F73_0 S71 rfl) hK trivial rfl ?_
            refine d_ld rfl 0 rfl T71 rfl rfl hK trivial rfl ?_
            refine d_rd (rd_move rfl) hK trivial rfl ?_
            refine d_rd (rd_idx T71 S76 rfl rfl (by omega) (by omega)) hK trivial rfl ?_
            refine d_rd (rd_fieldA F76_1 S32 rfl) hK trivial rfl ?_
            refine d_ld rfl 1 rfl T32 rfl hcb hK trivial rfl ?_
            refine d_rd (rd_move rfl) hK trivial rfl ?_
            refine d_rd (rd_sliceH T32 S5 rfl rfl (by omega) (by omega)) hK trivial rfl ?_
            refine d_rd (rd_idx T71 S76 rfl rfl (by omega) (by omega)) hK trivial rfl ?_
            refine d_rd (rd_fieldA F76_1 S32 rfl) hK trivial rfl ?_
            refine d_ef trivial (ef_store S32 1 rfl rfl h rfl rfl rfl (by have := rok.size; omega) (rok.fok _ _ (by omega)) (fun w h => ?_))
            refine ⟨fun e => absurd rfl e, ?_⟩
            refine d_nil ?_
            refine run_seq (run_region_lit ?_)
            refine o_rd (rd_assign rfl) trivial rfl ?_
            refine runO_nil ?_
            refine run_ret Tryd.func39 (RV.tmp rfl RV.nil) ?_
            -- ret 4 path c1f.c2f.c3f.c4f.c5t. L ['d', 'fl', 'vals']
            rw [truncate_go hf (by omega) (by omega), raw_go hs]
            have rok2 := rok.set (0 + pos W.files name * 2 + 1) (.slice fa2 n0.toNat fc2)
            rw [show (fcells gs).set (0 + pos W.files name * 2 + 1) (.slice fa2 n0.toNat fc2) = fcells (kset gs name (.slice fa2 n0.toNat fc2)) by rw [← hpg]; exact fcells_kset _ hg] at rok2
            replace h := h.ownClose 1 rfl rok2
            obtain ⟨v5, hv5, h⟩ := vals_take (Sat.bring 2 h) hf
            rw [hg] at hv5
            cases hv5
            replace h := Sat.head h (own_take (n := n0.toNat) (by omega))
            rw [Nat.mul_one, ← bcells_take] at h
            replace h := vals_put name hkg h
            exact ⟨rfl, refR_close (W := { W.went with files := kset W.files name (f.take n0.toNat) }) hcut (Sat.bring 2 (Sat.bring 2 h))⟩
          · have hs : W.stop = true := by simpa using c5
            rw [hs, if_pos rfl] at h
            refine o_rd (rd_not rfl) trivial rfl ?_
            refine o_rd (rd_assign rfl) trivial rfl ?_
            refine runO_nil (run_cond_true rfl (run_seq (run_region_lit ?_)))
            refine o_rd (rd_assign rfl) trivial rfl ?_
            refine runO_nil ?_
            refine run_ret Tryd.func39 (RV.tmp rfl RV.nil) ?_
            -- ret 5 path c1f.c2f.c3f.c4f.c5f. L ['W']
            rw [truncate_go hf (by omega) (by omega), raw_stop hs]
            exact ⟨rfl, h⟩

theorem ref_Rename {b : Nat} {W : DiskV} {name dst : ByteArray} {w : World} {R : List Hp} (hlen : W.files.length ≤ 1000000) (hnm : dst.size ≤ 9223372036854775807) (h : Sat w (refR b W :: R)) :
    FnC Tryd.prog 41 [(.pointer (some ⟨b, 0, none⟩)), .string name, .string dst] w fun v w' => v = .int .i64 (W.rrename name dst).2 ∧ Sat w' (refR b (W.rrename name dst).1 :: R) := by
  refine fnC_of_run Tryd.func41 rfl Tryd.ntmps41 (Nat.le_of_ble_eq_true rfl) (fun cs => ?_)
  refine run_seq (run_region_lit ?_)
  refine o_rd (rd_assign rfl) trivial rfl ?_
  refine runO_nil (run_seq (run_seq (run_region_lit ?_)))
  refine o_rd (rd_move rfl) trivial rfl ?_
  refine o_ef trivial (ef_call (Tryd.call66) rfl rfl ?_)
  refine FnC.mono (ref_Name hnm) ?_
  rintro _ _ ⟨rfl, rfl⟩
  refine o_know (b := _) 8 rfl (fun c1 => ?_) (fun c1 => ?_)
  · refine o_rd (rd_not rfl) trivial rfl ?_
    refine runO_nil (run_cond_false rfl (run_skip (run_seq (run_block (run_seq (run_region_lit ?_))))))
    refine o_rd (rd_move rfl) trivial rfl ?_
    refine o_rd (rd_move rfl) trivial rfl ?_
    refine o_ef trivial (ef_call (Tryd.call65) rfl rfl ?_)
    refine FnC.mono (ref_Find h) ?_
    rintro _ w ⟨rfl, h⟩
    refine o_tD (rd_lss rfl rfl) trivial rfl (fun c2 => ?_) (fun c2 => ?_)
    · refine o_rd (rd_assign rfl) trivial rfl ?_
      refine runO_nil (run_cond_true rfl (run_seq (run_region_lit ?_)))
      refine o_rd (rd_assign rfl) trivial rfl ?_
      refine runO_nil ?_
      refine run_ret Tryd.func41 (RV.tmp rfl RV.nil) ?_
      -- ret 0 path c1t.c2t. L ['W']
      rw [rrename_none c1 (findI_neg c2)]
      exact ⟨rfl, h⟩
    · refine o_rd (rd_assign rfl) trivial rfl ?_
      refine runO_nil (run_cond_false rfl (run_seq (run_region_lit ?_)))
      refine o_rd (rd_move rfl) trivial rfl ?_
      refine o_rd (rd_move rfl) trivial rfl ?_
      refine o_tD (rd_eqlS rfl rfl) trivial rfl (fun c3 => ?_) (fun c3 => ?_)
      · refine o_rd (rd_assign rfl) trivial rfl ?_
        refine runO_nil (run_cond_true rfl (run_seq (run_region_lit ?_)))
        refine o_rd (rd_assign rfl) trivial rfl ?_
        refine runO_nil ?_
        refine run_ret Tryd.func41 (RV.tmp rfl RV.nil) ?_
        -- ret 1 path c1t.c2f.c3t. L ['W']
        obtain ⟨f, hf, _⟩ := findI_pos c2
        rw [rrename_same c1 hf c3]
        exact ⟨rfl, h⟩
      · refine o_rd (rd_assign rfl) trivial rfl ?_
        refine runO_nil (run_cond_false rfl (run_seq (run_region_lit ?_)))
        refine o_rd (rd_move rfl) trivial rfl ?_
        refine o_ef trivial (ef_call (Tryd.call67) rfl rfl ?_)
        refine FnC.mono (ref_write h) ?_
        rintro _ w ⟨rfl, h⟩
        refine o_know (b := _) 21 rfl (fun c4 => ?_) (fun c4 => ?_)
        · have hs : W.stop = false := by simpa using c4
          rw [hs, if_neg Bool.false_ne_true] at h
          refine o_rd (rd_not rfl) trivial rfl ?_
          refine o_rd (rd_assign rfl) trivial rfl ?_
          refine runO_nil (run_cond_false rfl (run_skip (run_inBlock (run_seq (run_region_lit ?_)))))
          refine o_rd (rd_move rfl) trivial rfl ?_
          refine o_rd (rd_move rfl) trivial rfl ?_
          refine o_ef trivial (ef_call (Tryd.call70) rfl rfl ?_)
          refine FnC.mono (ref_take (W := W.went) hlen h) ?_
          rintro _ w h
          refine runO_nil (run_seq ?_)
          obtain ⟨f, hf, _⟩ := findI_pos c2
          have hf2 := vals_keep c3 hf
          have hk := (findI_some hf2).1
          obtain ⟨a, n, c, gs, hcut, hn, hnc, hcm, hkg, h⟩ := refR_open h
          subst hn
          refine run_drawS 10 2 [(0, true), (1, true), (2, true), (3, true), (4, true), (5, true), (7, true), (6, false), (8, true), (9, true), (10, false)] [(_, true), (_, true), (_, true), (_, true), (_, true), (_, true), (_, true), (_, false), (_, true), (_, true), (_, false)] h (Holds.cons (h.at_ 0 rfl) (Holds.nil _)) mixed (by kernel_rfl) rfl ?_
          intro w h hK
          refine d_rd (rd_move rfl) hK trivial rfl ?_
          refine d_rd (rd_nil rfl) hK trivial rfl ?_
          refine d_rd (rd_fieldA F73_0 S71 rfl) hK trivial rfl ?_
          refine d_ld rfl 0 rfl T71 rfl rfl hK trivial rfl ?_
          refine d_rd (rd_move rfl) hK trivial rfl ?_
          refine d_rd (rd_move rfl) hK trivial rfl ?_
          refine d_rd (rd_move rfl) hK trivial rfl ?_
          refine d_ef trivial (ef_call (Tryd.call65) rfl rfl ?_)
          refine FnC.mono (ref_FindO (W := { W.went with files := W.files.filter fun x => off dst x.1 }) hnc hcm hkg h) ?_
          rintro v9 w ⟨e9, h⟩
          replace e9 := e9.trans (congrArg (Value.int .i64) hk)
          subst e9
          refine ⟨fun _ => (Holds.cons (h.at_ 0 rfl) (Holds.nil _)), ?_⟩
          replace hK := (Holds.cons (h.at_ 0 rfl) (Holds.nil _))
          obtain ⟨bb, C, fr, fa, fl, fc, ea, hg, hpg, hpl, hfl, hfc, hfm, _, hcb, rok, h⟩ := file_open (fs := W.files.filter fun x => off dst x.1) 1 2 h rfl rfl hf2
          subst ea
          refine d_rd (rd_idx T71 S76 rfl rfl (by omega) (by omega)) hK trivial rfl ?_
          refine d_rd (rd_fieldA F76_0 S9 rfl) hK trivial rfl ?_
          refine d_ef trivial (ef_store S9 1 rfl rfl h rfl rfl rfl (by have := rok.size; omega) (rok.fok _ _ (by omega)) (fun w h => ?_))
          refine ⟨fun e => absurd rfl e, ?_⟩
          refine d_nil ?_
          refine run_seq (run_region_lit ?_)
          refine o_rd (rd_assign rfl) trivial rfl ?_
          refine runO_nil ?_
          refine run_ret Tryd.func41 (RV.tmp rfl RV.nil) ?_
          -- ret 2 path c1t.c2f.c3f.c4t. L ['d', 'fl', 'vals']
          have hgp := (pos_some hg).2
          rw [hpg] at hgp
          have rok2 := rok.set (0 + pos (W.files.filter fun x => off dst x.1) name * 2) (.string dst)
          rw [show (fcells gs).set (0 + pos (W.files.filter fun x => off dst x.1) name * 2) (.string dst) = fcells (gs.set (pos (W.files.filter fun x => off dst x.1) name) (dst, .slice fa fl fc)) by rw [Nat.zero_add]; exact (fcells_set0 gs _ (name, _) dst hgp).symm] at rok2
          replace h := h.ownClose 1 rfl rok2
          replace h := Sat.conv 2 h rfl (fun g x => vals_ren (pos (W.files.filter fun x => off dst x.1) name) dst x hgp (pos_some hf2).2)
          rw [rrename_go c1 hf c3, raw_go hs]
          exact ⟨rfl, refR_close (W := { W.went with files := (W.files.filter fun x => off dst x.1).set (pos (W.files.filter fun x => off dst x.1) name) (dst, f) }) hcut h⟩
        · have hs : W.stop = true := by simpa using c4
          rw [hs, if_pos rfl] at h
          refine o_rd (rd_not rfl) trivial rfl ?_
          refine o_rd (rd_assign rfl) trivial rfl ?_
          refine runO_nil (run_cond_true rfl (run_seq (run_region_lit ?_)))
          refine o_rd (rd_assign rfl) trivial rfl ?_
          refine runO_nil ?_
          refine run_ret Tryd.func41 (RV.tmp rfl RV.nil) ?_
          -- ret 3 path c1t.c2f.c3f.c4f. L ['W']
          obtain ⟨f, hf, _⟩ := findI_pos c2
          rw [rrename_go c1 hf c3, raw_stop hs]
          exact ⟨rfl, h⟩
  · refine o_rd (rd_not rfl) trivial rfl ?_
    refine runO_nil (run_cond_true rfl (run_seq (run_region_lit ?_)))
    refine o_rd (rd_assign rfl) trivial rfl ?_
    refine runO_nil ?_
    refine run_ret Tryd.func41 (RV.tmp rfl RV.nil) ?_
    -- ret 4 path c1f. L ['W']
    rw [rrename_bad (by rw [c1]; exact Bool.false_ne_true)]
    exact ⟨rfl, h⟩

theorem ref_Append {b : Nat} {W : DiskV} {name : ByteArray} {ba : Option Addr} {bcap : Nat} {bs : List UInt8} {B : Hp} {w : World} {R : List Hp} (hB : ∀ g, B g → RowH g ba (bcells bs)) (hc : bs.length ≤ bcap) (hbm : bcap ≤ 9223372036854775807) (hnm : name.size ≤ 9223372036854775807) (hlen : W.files.length ≤ 256) (hfs : ∀ f, kget W.files name = some f → f.length ≤ 4194304) (h : Sat w (refR b W :: B :: R)) :
    FnC Tryd.prog 37 [(.pointer (some ⟨b, 0, none⟩)), .string name, .slice ba bs.length bcap] w fun v w' => v = .int .i64 (W.append name bs).2 ∧ Sat w' (refR b (W.append name bs).1 :: B :: R) := by
  refine fnC_of_run Tryd.func37 rfl Tryd.ntmps37 (Nat.le_of_ble_eq_true rfl) (fun cs => ?_)
  refine run_seq (run_region_lit ?_)
  refine o_rd (rd_assign rfl) trivial rfl ?_
  refine runO_nil (run_seq (run_seq (run_region_lit ?_)))
  refine o_rd (rd_move rfl) trivial rfl ?_
  refine o_ef trivial (ef_call (Tryd.call66) rfl rfl ?_)
  refine FnC.mono (ref_Name hnm) ?_
  rintro _ _ ⟨rfl, rfl⟩
  refine o_know (b := _) 11 rfl (fun c1 => ?_) (fun c1 => ?_)
  · refine o_rd (rd_not rfl) trivial rfl ?_
    refine runO_nil (run_cond_false rfl (run_skip (run_seq (run_region_lit ?_))))
    refine o_rd (rd_move rfl) trivial rfl ?_
    refine o_rd (rd_move rfl) trivial rfl ?_
    refine o_ef trivial (ef_call (Tryd.call65) rfl rfl ?_)
    refine FnC.mono (ref_Find h) ?_
    rintro _ w ⟨rfl, h⟩
    refine o_rd (rd_assign rfl) trivial rfl ?_
    refine runO_nil (run_seq (run_seq ?_))
    refine run_cutA 1 (σ := Unit) (fun _ => [(0, (.pointer (some ⟨b, 0, none⟩))), (1, .string name), (2, .slice ba bs.length bcap), (7, .int .i64 (findI W.files name))]) (fun _ w => Sat w (refR b W :: B :: R) ∧ W.append name bs = W.rest name bs ∧ ((kget W.files name).getD []).length + bs.length ≤ 4194304 ∧ (kget W.files name = none → W.files.length < 256)) ?_ (fun cut1 => ?_)
    · clear h
      rintro _ w ⟨h, hap, hbd, hbn⟩
      refine run_seq (run_seq (run_region_lit ?_))
      refine o_rd (rd_assign rfl) trivial rfl ?_
      refine runO_nil (run_block ?_)
      refine run_loop (σ := DiskV × List UInt8 × Option Addr × Nat × Bool) (fun (W1, bs1, a1, cap1, first) => [(0, (.pointer (some ⟨b, 0, none⟩))), (1, .string name), (2, .slice a1 bs1.length cap1), (7, .int .i64 (findI W1.files name)), (8, .bool first)]) (fun (W1, bs1, a1, cap1, first) w => Sat w (refR b W1 :: B :: R) ∧ (∀ g, B g → RowH g a1 (bcells bs1)) ∧ bs1.length ≤ cap1 ∧ cap1 ≤ 9223372036854775807 ∧ ((kget W1.files name).getD []).length + bs1.length ≤ 4194304 ∧ (kget W1.files name = none → W1.files.length < 256) ∧ W.append name bs = W1.rest name bs1 ∧ (first = false → (kget W1.files name).isSome = true)) (fun (W1, bs1, a1, cap1, first) => bs1.length * 2 + (if first then 1 else 0)) (W, bs, ba, bcap, true) ?_ (sub_cons rfl (sub_cons rfl (sub_cons rfl (sub_cons rfl (sub_cons rfl (sub_nil _)))))) ?_
      · exact ⟨h, hB, hc, hbm, hbd, hbn, hap, fun e => by cases e⟩
      clear h
      rintro ⟨W1, bs1, a1, cap1, first⟩ w ⟨h, hB, hc, hcm, hbd, hbn, hap, hfi⟩ ih
      refine run_seq (run_seq ?_)
      refine run_cutA 1 (σ := Unit) (fun _ => [(0, (.pointer (some ⟨b, 0, none⟩))), (1, .string name), (2, .slice a1 bs1.length cap1), (7, .int .i64 (findI W1.files name)), (8, .bool first)]) (fun _ w => Sat w (refR b W1 :: B :: R) ∧ (bs1 ≠ [] ∨ kget W1.files name = none)) ?_ (fun cut2 => ?_)
      · clear h
        rintro _ w ⟨h, hgo⟩
        refine run_seq (run_block (run_seq (run_seq (run_region_lit ?_))))
        refine o_rd (rd_move rfl) trivial rfl ?_
        refine o_ef trivial (ef_call (Tryd.call67) rfl rfl ?_)
        refine FnC.mono (ref_write h) ?_
        rintro _ w ⟨rfl, h⟩
        refine o_know (b := _) 61 rfl (fun c2 => ?_) (fun c2 => ?_)
        · have hs : W1.stop = false := by simpa using c2
          rw [hs, if_neg Bool.false_ne_true] at h
          refine o_rd (rd_not rfl) trivial rfl ?_
          refine runO_nil (run_cond_false rfl (run_skip (run_seq (run_region_lit ?_))))
          refine o_rd (rd_move rfl) trivial rfl ?_
          refine o_rd (rd_len (u := 0) T32 rfl) trivial rfl ?_
          refine o_rd (rd_assign rfl) trivial rfl ?_
          refine runO_nil (run_seq (run_seq ?_))
          refine run_cutA 1 (σ := Unit) (fun _ => [(0, (.pointer (some ⟨b, 0, none⟩))), (1, .string name), (2, .slice a1 bs1.length cap1), (7, .int .i64 (findI W1.files name)), (9, .int .i64 (bs1.take 32).length)]) (fun _ w => Sat w (refR b W1.went :: B :: R)) ?_ (fun cut3 => ?_)
          · clear h
            rintro _ w h
            refine run_seq (run_seq ?_)
            refine run_cutA 1 (σ := List (ByteArray × List UInt8)) (fun g2 => [(0, (.pointer (some ⟨b, 0, none⟩))), (1, .string name), (2, .slice a1 bs1.length cap1), (7, .int .i64 (pos g2 name : Nat)), (9, .int .i64 (bs1.take 32).length)]) (fun g2 w => Sat w (refR b ({ W1.went with files := g2 } : DiskV) :: B :: R) ∧ kget g2 name = some ((kget W1.files name).getD []) ∧ ∀ x, kset g2 name x = kset W1.files name x) ?_ (fun cut4 => ?_)
            · clear h
              rintro g2 w ⟨h, hg2, hks⟩
              refine run_seq ?_
              obtain ⟨a, n, c, gs, hcut, hn, hnc, hcm2, hkg, h⟩ := refR_open h
              subst hn
              obtain ⟨bb, C, fr, fa, fl, fc, ea, hg, hpg, hpl, hfl, hfc, hfm, _, hcb, rok, h⟩ := file_open (fs := g2) 1 2 h rfl rfl hg2
              subst ea
              refine run_drawS 19 2 [(0, true), (1, true), (2, true), (3, true), (4, true), (5, true), (6, true), (7, true), (8, true), (9, true), (10, true), (11, true), (12, true), (13, true), (14, true), (15, true), (16, false), (17, true), (18, true), (19, false)] [(_, true), (_, true), (_, true), (_, true), (_, true), (_, true), (_, true), (_, true), (_, true), (_, true), (_, true), (_, true), (_, true), (_, true), (_, true), (_, true), (_, false), (_, true), (_, true), (_, false)] h (Holds.cons (h.at_ 0 rfl) (Holds.cons (h.at_ 1 rfl) (Holds.nil _))) mixed (by kernel_rfl) rfl ?_
              intro w h hK
              refine d_rd (rd_move rfl) hK trivial rfl ?_
              refine d_rd (rd_nil rfl) hK trivial rfl ?_
              refine d_rd (rd_fieldA F73_0 S71 rfl) hK trivial rfl ?_
              refine d_ld rfl 0 rfl T71 rfl rfl hK trivial rfl ?_
              refine d_rd (rd_move rfl) hK trivial rfl ?_
              refine d_rd (rd_move rfl) hK trivial rfl ?_
              refine d_rd (rd_nil rfl) hK trivial rfl ?_
              refine d_rd (rd_fieldA F73_0 S71 rfl) hK trivial rfl ?_
              refine d_ld rfl 0 rfl T71 rfl rfl hK trivial rfl ?_
              refine d_rd (rd_move rfl) hK trivial rfl ?_
              refine d_rd (rd_idx T71 S76 rfl rfl (by omega) (by omega)) hK trivial rfl ?_
              refine d_rd (rd_fieldA F76_1 S32 rfl) hK trivial rfl ?_
              refine d_ld rfl 1 rfl T32 rfl hcb hK trivial rfl ?_
              refine d_rd (rd_move rfl) hK trivial rfl ?_
              refine d_rd (rd_move rfl) hK trivial rfl ?_
              refine d_rd (Reads.to (v' := .slice a1 (bs1.take 32).length cap1) (rd_sliceH T32 S5 rfl rfl (by omega) (by simp only [List.length_take]; omega)) (by simp only [Int.toNat_natCast])) hK trivial rfl ?_
              obtain ⟨v5, hv5, h⟩ := vals_take (Sat.bring 2 h) hg2
              rw [hg] at hv5
              cases hv5
              refine d_ef trivial (ef_append Tryd.underlying32 N32 S5 rfl 0 rfl rfl h rfl (Src.slice (h.rowOf 4 rfl (fun g x => row_take 32 (hB g x))) (bcells_len _) (ones_bcells _)) (bcells_len _) rfl (by simp only [List.length_take]; omega) (by simp only [List.length_take]; omega) rfl (fun a17 w h => ?_))
              obtain ⟨a7, n7, c7, rfl, hl7, hc7, hm7, _⟩ := Sat.ownRow 0 h rfl
              rw [← bcells_append] at h
              refine ⟨fun _ => (Holds.cons (h.at_ 2 rfl) (Holds.cons (h.at_ 3 rfl) (Holds.nil _))), ?_⟩
              replace hK := (Holds.cons (h.at_ 2 rfl) (Holds.cons (h.at_ 3 rfl) (Holds.nil _)))
              refine d_rd (rd_idx T71 S76 rfl rfl (by omega) (by omega)) hK trivial rfl ?_
              refine d_rd (rd_fieldA F76_1 S32 rfl) hK trivial rfl ?_
              refine d_ef trivial (ef_store S32 3 rfl rfl h rfl rfl rfl (by have := rok.size; omega) (rok.fok _ _ (by omega)) (fun w h => ?_))
              refine ⟨fun e => absurd rfl e, ?_⟩
              refine d_nil ?_
              refine run_region_lit ?_
              refine o_rd (rd_move rfl) trivial rfl ?_
              refine o_rd (rd_move rfl) trivial rfl ?_
              refine o_rd (Reads.to (v' := .slice (adv a1 (bs1.take 32).length 1 cap1) (bs1.drop 32).length (cap1 - (bs1.take 32).length)) (rd_sliceL T32 S5 rfl rfl (by omega) (by simp only [List.length_take]; omega)) (by simp only [List.length_take, List.length_drop, Int.toNat_natCast, Value.slice.injEq, true_and, and_true]; omega)) trivial rfl ?_
              refine o_rd (rd_assign rfl) trivial rfl ?_
              refine runO_nil (run_inBlock (run_region_lit ?_))
              refine o_rd (rd_assign rfl) trivial rfl ?_
              refine runO_nil ?_
              -- round of loop 0 path c1t.K.L0.K.c2t.K.K. L ['o', 'vals', 'd', 'fl', 'B']
              have rok2 := rok.set (0 + pos g2 name * 2 + 1) (.slice a7 n7 c7)
              rw [show (fcells gs).set (0 + pos g2 name * 2 + 1) (.slice a7 n7 c7) = fcells (kset gs name (.slice a7 n7 c7)) by rw [← hpg]; exact fcells_kset _ hg] at rok2
              replace h := h.ownClose 3 rfl rok2
              replace h := vals_put name hkg h
              rw [show kset g2 name ((kget W1.files name).getD [] ++ bs1.take 32) = kset W1.files name ((kget W1.files name).getD [] ++ bs1.take 32) from hks _] at h
              have hdec : (bs1.drop 32).length * 2 + 0 < bs1.length * 2 + (if first then 1 else 0) := by
                rcases hgo with hb | hn
                · have := List.length_pos_iff.2 hb
                  simp only [List.length_drop]
                  omega
                · cases first with
                  | true => simp only [List.length_drop, if_true]; omega
                  | false => have := hfi rfl; rw [hn] at this; cases this
              have hk3 : ((pos g2 name : Nat) : Int) = findI (kset W1.files name ((kget W1.files name).getD [] ++ bs1.take 32)) name := by
                rw [(findI_some (f := (kget W1.files name).getD [] ++ bs1.take 32) (by rw [kget_kset]; simp)).1, ← hks, pos_kset]
              rw [hk3]
              exact run_fewer (sub_cons rfl (sub_cons rfl (sub_cons rfl (sub_cons rfl (sub_cons rfl (sub_nil _)))))) (ih ({ W1.went with files := kset W1.files name ((kget W1.files name).getD [] ++ bs1.take 32) }, bs1.drop 32, _, _, false) w ⟨refR_close (W := { W1.went with files := kset W1.files name ((kget W1.files name).getD [] ++ bs1.take 32) }) hcut (Sat.bring 2 (Sat.bring 2 h)), fun g x => row_drop 32 (hB g x) hc, by simp only [List.length_take, List.length_drop]; omega, by omega, by rw [kget_kset]; simp only [if_true, Option.getD_some, List.length_append, List.length_take, List.length_drop]; omega, fun e => by rw [kget_kset] at e; simp at e, hap.trans (rest_go hs hgo), fun _ => by rw [kget_kset]; simp⟩ (by simp only [Bool.false_eq_true, if_false]; omega))
            refine run_region_lit ?_
            refine o_rd (rd_move rfl) trivial rfl ?_
            refine o_tD (rd_lss rfl rfl) trivial rfl (fun c3 => ?_) (fun c3 => ?_)
            · refine runO_nil (run_cond_true rfl (run_seq ?_))
              obtain ⟨a, n, c, gs, hcut, hn, hnc, hcm2, hkg, h⟩ := refR_open h
              subst hn
              have hgl := len_of_keys hkg
              have hl256 := hbn (findI_neg c3)
              have hgl2 : W1.went.files.length = W1.files.length := rfl
              refine run_region_lit ?_
              refine o_rd (rd_move rfl) trivial rfl ?_
              refine o_rd (rd_move rfl) trivial rfl ?_
              refine o_rd (rd_nil rfl) trivial rfl ?_
              refine o_rd (rd_fieldA F73_0 S71 rfl) trivial rfl ?_
              refine o_ld rfl (h.at_ 0 rfl) T71 rfl rfl trivial rfl ?_
              refine o_rd (rd_move rfl) trivial rfl ?_
              refine o_rd (Reads.to (v' := .agg #[.string name, .slice none 0 0]) (rd_build B76 rfl rfl) rfl) trivial rfl ?_
              refine o_ef trivial (ef_buildSlice Tryd.underlying71 S76 rfl rfl rfl h rfl (fun s w h => ?_))
              refine o_ef trivial (ef_append Tryd.underlying71 N71 S76 rfl 2 rfl rfl h rfl (Src.slice (h.rowPt 0 rfl) rfl rfl) (fcells_len gs) rfl (by omega) (by omega) rfl (fun a15 w h => ?_))
              obtain ⟨a6, n6, c6, rfl, hl6, hc6, hm6, _⟩ := Sat.ownRow 2 h rfl
              have e6 : n6 = gs.length + 1 := by
                have e7 : (fcells gs ++ fcells [(name, Value.slice none 0 0)]).length = n6 * 2 := hl6
                rw [← fcells_append, fcells_len] at e7
                simp only [List.length_append, List.length_cons, List.length_nil] at e7
                omega
              subst e6
              refine o_rd (rd_nil rfl) trivial rfl ?_
              refine o_rd (rd_fieldA F73_0 S71 rfl) trivial rfl ?_
              refine o_ef trivial (ef_store S71 1 rfl rfl h rfl rfl rfl (Nat.le_of_ble_eq_true rfl) rfl (fun w h => ?_))
              refine runO_nil (run_region_lit ?_)
              refine o_rd (rd_move rfl) trivial rfl ?_
              refine o_rd (rd_nil rfl) trivial rfl ?_
              refine o_rd (rd_fieldA F73_0 S71 rfl) trivial rfl ?_
              refine o_ld rfl (h.at_ 1 rfl) T71 rfl rfl trivial rfl ?_
              refine o_rd (rd_len (u := 0) T71 rfl) trivial rfl ?_
              refine o_rd (Reads.to (v' := .int .i64 (pos (kset W1.files name []) name : Nat)) (rd_subi rfl rfl (by constructor <;> omega)) (by rw [pos_kset, pos_none (findI_neg c3), ← show gs.length = W1.files.length from hgl]; simp only [Value.int.injEq, true_and]; omega)) trivial rfl ?_
              refine o_rd (rd_assign rfl) trivial rfl ?_
              refine runO_nil ?_
              -- cut region 14 path c1t.K.L0.K.c2t.K.c3t. L ['s', 'd', 'fl', 'vals', 'B']
              have hn3 := findI_neg c3
              have hgn : kget gs name = none := by
                have := kget_of_keys hkg name
                rw [show kget W1.went.files name = none from hn3] at this
                simpa using this
              replace h := vals_set name (f := []) (Sat.lone (own_none none) (Sat.bring 3 (Sat.bring 2 (Sat.bring 2 (Sat.bring 3 (Sat.out 0 h))))))
              rw [kset_new (Value.slice none 0 0) hgn] at h
              exact run_fewer (sub_cons rfl (sub_cons rfl (sub_cons rfl (sub_cons rfl (sub_cons rfl (sub_nil _)))))) (cut4 (kset W1.files name []) w ⟨refR_close (W := { W1.went with files := kset W1.files name [] }) (gs := gs ++ [(name, .slice none 0 0)]) hcut (by rw [fcells_append]; exact Sat.bring 2 (Sat.bring 2 h)), by rw [kget_kset, hn3]; simp, fun x => kset_twice _ _ _ _⟩)
            · refine runO_nil (run_cond_false rfl (run_skip ?_))
              -- cut region 14 path c1t.K.L0.K.c2t.K.c3f. L ['W', 'B']
              obtain ⟨f, hf, hk⟩ := findI_pos c3
              rw [hk]
              exact run_fewer (sub_cons rfl (sub_cons rfl (sub_cons rfl (sub_cons rfl (sub_cons rfl (sub_nil _)))))) (cut4 W1.files w ⟨h, by rw [hf]; rfl, fun _ => rfl⟩)
          refine run_region_lit ?_
          refine o_rd (rd_move rfl) trivial rfl ?_
          refine o_tD (rd_gtr rfl rfl) trivial rfl (fun c4 => ?_) (fun c4 => ?_)
          · refine runO_nil (run_cond_true rfl (run_region_lit ?_))
            refine o_rd (Reads.to (v' := .int .i64 (bs1.take 32).length) (rd_assign rfl) (by simp only [List.length_take, Value.int.injEq, true_and]; omega)) trivial rfl ?_
            refine runO_nil ?_
            -- cut region 12 path c1t.K.L0.K.c2t.c4t. L ['W', 'B']
            exact run_fewer (sub_cons rfl (sub_cons rfl (sub_cons rfl (sub_cons rfl (sub_cons rfl (sub_nil _)))))) (cut3 () w h)
          · refine runO_nil (run_cond_false rfl (run_skip ?_))
            -- cut region 12 path c1t.K.L0.K.c2t.c4f. L ['W', 'B']
            rw [show (bs1.length : Int) = ((bs1.take 32).length : Nat) by simp only [List.length_take]; omega]
            exact run_fewer (sub_cons rfl (sub_cons rfl (sub_cons rfl (sub_cons rfl (sub_cons rfl (sub_nil _)))))) (cut3 () w h)
        · have hs : W1.stop = true := by simpa using c2
          rw [hs, if_pos rfl] at h
          refine o_rd (rd_not rfl) trivial rfl ?_
          refine runO_nil (run_cond_true rfl (run_seq (run_region_lit ?_)))
          refine o_rd (rd_assign rfl) trivial rfl ?_
          refine runO_nil ?_
          refine run_ret Tryd.func37 (RV.tmp rfl RV.nil) ?_
          -- ret 0 path c1t.K.L0.K.c2f. L ['W', 'B']
          rw [hap, rest_stop hs hgo]
          exact ⟨rfl, h⟩
      refine run_region_lit ?_
      refine o_rd (rd_move rfl) trivial rfl ?_
      refine o_rd (rd_len (u := 0) T32 rfl) trivial rfl ?_
      refine o_tD (rd_gtr rfl rfl) trivial rfl (fun c5 => ?_) (fun c5 => ?_)
      · refine o_rd (rd_move rfl) trivial rfl ?_
        refine o_pass rfl rfl rfl rfl ?_
        refine o_pass rfl rfl rfl rfl ?_
        refine o_pass rfl rfl rfl rfl ?_
        refine o_pass rfl rfl rfl rfl ?_
        refine o_pass rfl rfl rfl rfl ?_
        refine o_rd (rd_pick_t rfl rfl) trivial rfl ?_
        refine runO_nil (run_cond_true rfl (run_skip ?_))
        -- cut region 7 path c1t.K.L0.c5t. L ['W', 'B']
        exact run_fewer (sub_cons rfl (sub_cons rfl (sub_cons rfl (sub_cons rfl (sub_cons rfl (sub_nil _)))))) (cut2 () w ⟨h, .inl (by intro e; simp [e] at c5)⟩)
      · refine o_rd (rd_move rfl) trivial rfl ?_
        refine o_rd (rd_move rfl) rfl rfl ?_
        refine o_rd (rd_move rfl) rfl rfl ?_
        refine o_know (b := _) 55 rfl (fun c6 => ?_) (fun c6 => ?_)
        · refine o_rd (rd_move rfl) rfl rfl ?_
          refine o_tD (rd_lss rfl rfl) rfl rfl (fun c7 => ?_) (fun c7 => ?_)
          · refine o_rd (rd_pick_t rfl rfl) rfl rfl ?_
            refine o_rd (rd_pick_f rfl rfl) trivial rfl ?_
            refine runO_nil (run_cond_true rfl (run_skip ?_))
            -- cut region 7 path c1t.K.L0.c5f.c6t.c7t. L ['W', 'B']
            exact run_fewer (sub_cons rfl (sub_cons rfl (sub_cons rfl (sub_cons rfl (sub_cons rfl (sub_nil _)))))) (cut2 () w ⟨h, .inr (findI_neg c7)⟩)
          · refine o_rd (rd_pick_t rfl rfl) rfl rfl ?_
            refine o_rd (rd_pick_f rfl rfl) trivial rfl ?_
            refine runO_nil (run_cond_false rfl (run_exit rfl (run_seq (run_region_lit ?_))))
            refine o_rd (rd_assign rfl) trivial rfl ?_
            refine runO_nil ?_
            refine run_ret Tryd.func37 (RV.tmp rfl RV.nil) ?_
            -- ret 1 path c1t.K.L0.c5f.c6t.c7f. L ['W', 'B']
            have e : bs1 = [] := List.length_eq_zero_iff.1 (by omega)
            subst e
            obtain ⟨f, hf, _⟩ := findI_pos c7
            rw [hap, rest_done (by rw [hf]; rfl)]
            exact ⟨rfl, h⟩
        · refine o_pass rfl rfl rfl rfl ?_
          refine o_pass rfl rfl rfl rfl ?_
          refine o_rd (rd_pick_f rfl rfl) rfl rfl ?_
          refine o_rd (rd_pick_f rfl rfl) trivial rfl ?_
          refine runO_nil (run_cond_false rfl (run_exit rfl (run_seq (run_region_lit ?_))))
          refine o_rd (rd_assign rfl) trivial rfl ?_
          refine runO_nil ?_
          refine run_ret Tryd.func37 (RV.tmp rfl RV.nil) ?_
          -- ret 2 path c1t.K.L0.c5f.c6f. L ['W', 'B']
          have e : bs1 = [] := List.length_eq_zero_iff.1 (by omega)
          subst e
          rw [hap, rest_done (hfi c6)]
          exact ⟨rfl, h⟩
    obtain ⟨a, n, c, gs, hcut, hn, hnc, hcm, hkg, h⟩ := refR_open h
    subst hn
    refine run_region_lit ?_
    refine o_rd (rd_move rfl) trivial rfl ?_
    refine o_tD (rd_lss rfl rfl) trivial rfl (fun c8 => ?_) (fun c8 => ?_)
    · refine o_rd (rd_move rfl) trivial rfl ?_
      refine o_rd (rd_move rfl) rfl rfl ?_
      refine o_rd (rd_nil rfl) rfl rfl ?_
      refine o_rd (rd_fieldA F73_0 S71 rfl) rfl rfl ?_
      refine o_ld rfl (h.at_ 0 rfl) T71 rfl rfl rfl rfl ?_
      refine o_rd (rd_len (u := 0) T71 rfl) rfl rfl ?_
      refine o_tD (rd_geq rfl rfl) rfl rfl (fun c9 => ?_) (fun c9 => ?_)
      · refine o_rd (rd_pick_t rfl rfl) trivial rfl ?_
        refine o_rd (rd_move rfl) trivial rfl ?_
        refine o_pass rfl rfl rfl rfl ?_
        refine o_pass rfl rfl rfl rfl ?_
        refine o_pass rfl rfl rfl rfl ?_
        refine o_rd (rd_pick_t rfl rfl) trivial rfl ?_
        refine o_rd (rd_move rfl) trivial rfl ?_
        refine o_pass rfl rfl rfl rfl ?_
        refine o_pass rfl rfl rfl rfl ?_
        refine o_pass rfl rfl rfl rfl ?_
        refine o_pass rfl rfl rfl rfl ?_
        refine o_pass rfl rfl rfl rfl ?_
        refine o_pass rfl rfl rfl rfl ?_
        refine o_pass rfl rfl rfl rfl ?_
        refine o_pass rfl rfl rfl rfl ?_
        refine o_pass rfl rfl rfl rfl ?_
        refine o_pass rfl rfl rfl rfl ?_
        refine o_pass rfl rfl rfl rfl ?_
        refine o_pass rfl rfl rfl rfl ?_
        refine o_pass rfl rfl rfl rfl ?_
        refine o_pass rfl rfl rfl rfl ?_
        refine o_pass rfl rfl rfl rfl ?_
        refine o_pass rfl rfl rfl rfl ?_
        refine o_pass rfl rfl rfl rfl ?_
        refine o_rd (rd_pick_t rfl rfl) trivial rfl ?_
        refine runO_nil (run_cond_true rfl (run_seq (run_region_lit ?_)))
        refine o_rd (rd_assign rfl) trivial rfl ?_
        refine runO_nil ?_
        refine run_ret Tryd.func37 (RV.tmp rfl RV.nil) ?_
        -- ret 3 path c1t.c8t.c9t. L ['d', 'fl', 'vals', 'B']
        have hgl := len_of_keys hkg
        rw [append_full c1 (findI_neg c8) (by omega)]
        exact ⟨rfl, refR_close hcut h⟩
      · refine o_rd (rd_pick_t rfl rfl) trivial rfl ?_
        refine o_rd (rd_move rfl) trivial rfl ?_
        refine o_rd (rd_move rfl) rfl rfl ?_
        refine o_rd (rd_len (u := 0) T32 rfl) rfl rfl ?_
        refine o_tD (rd_gtr rfl rfl) rfl rfl (fun c10 => ?_) (fun c10 => ?_)
        · refine o_rd (rd_pick_f rfl rfl) trivial rfl ?_
          refine o_rd (rd_move rfl) trivial rfl ?_
          refine o_pass rfl rfl rfl rfl ?_
          refine o_pass rfl rfl rfl rfl ?_
          refine o_pass rfl rfl rfl rfl ?_
          refine o_pass rfl rfl rfl rfl ?_
          refine o_pass rfl rfl rfl rfl ?_
          refine o_pass rfl rfl rfl rfl ?_
          refine o_pass rfl rfl rfl rfl ?_
          refine o_pass rfl rfl rfl rfl ?_
          refine o_pass rfl rfl rfl rfl ?_
          refine o_pass rfl rfl rfl rfl ?_
          refine o_pass rfl rfl rfl rfl ?_
          refine o_pass rfl rfl rfl rfl ?_
          refine o_pass rfl rfl rfl rfl ?_
          refine o_pass rfl rfl rfl rfl ?_
          refine o_pass rfl rfl rfl rfl ?_
          refine o_pass rfl rfl rfl rfl ?_
          refine o_pass rfl rfl rfl rfl ?_
          refine o_rd (rd_pick_t rfl rfl) trivial rfl ?_
          refine runO_nil (run_cond_true rfl (run_seq (run_region_lit ?_)))
          refine o_rd (rd_assign rfl) trivial rfl ?_
          refine runO_nil ?_
          refine run_ret Tryd.func37 (RV.tmp rfl RV.nil) ?_
          -- ret 4 path c1t.c8t.c9f.c10t. L ['d', 'fl', 'vals', 'B']
          rw [append_over c1 (findI_neg c8) (by omega)]
          exact ⟨rfl, refR_close hcut h⟩
        · refine o_rd (rd_pick_f rfl rfl) trivial rfl ?_
          refine o_rd (rd_move rfl) trivial rfl ?_
          refine o_rd (rd_move rfl) rfl rfl ?_
          refine o_tD (rd_geq rfl rfl) rfl rfl (fun c11 => ?_) (fun c11 => ?_)
          · exact absurd c11 (by omega)
          · refine o_rd (rd_move rfl) rfl rfl ?_
            refine o_pass rfl rfl rfl rfl ?_
            refine o_pass rfl rfl rfl rfl ?_
            refine o_pass rfl rfl rfl rfl ?_
            refine o_pass rfl rfl rfl rfl ?_
            refine o_pass rfl rfl rfl rfl ?_
            refine o_pass rfl rfl rfl rfl ?_
            refine o_pass rfl rfl rfl rfl ?_
            refine o_pass rfl rfl rfl rfl ?_
            refine o_pass rfl rfl rfl rfl ?_
            refine o_pass rfl rfl rfl rfl ?_
            refine o_pass rfl rfl rfl rfl ?_
            refine o_pass rfl rfl rfl rfl ?_
            refine o_pass rfl rfl rfl rfl ?_
            refine o_rd (rd_pick_f rfl rfl) rfl rfl ?_
            refine o_rd (rd_pick_f rfl rfl) trivial rfl ?_
            refine runO_nil (run_cond_false rfl (run_skip ?_))
            -- cut region 4 path c1t.c8t.c9f.c10f.c11f. L ['d', 'fl', 'vals', 'B']
            have hgl := len_of_keys hkg
            exact run_fewer (sub_cons rfl (sub_cons rfl (sub_cons rfl (sub_cons rfl (sub_nil _))))) (cut1 () w ⟨refR_close hcut h, append_rest c1 (fun _ => by omega) (by omega) (fun f e => by rw [findI_neg c8] at e; cases e), by rw [findI_neg c8]; simp only [Option.getD_none, List.length_nil]; omega, fun _ => by omega⟩)
    · obtain ⟨f, hf, hk⟩ := findI_pos c8
      have hff := hfs f hf
      obtain ⟨bb, C, fr, fa, fl, fc, ea, hg, hpg, hpl, hfl, hfc, hfm, hb, hcb⟩ := file_of 1 2 h rfl rfl hf
      subst ea
      refine o_rd (rd_move rfl) trivial rfl ?_
      refine o_pass rfl rfl rfl rfl ?_
      refine o_pass rfl rfl rfl rfl ?_
      refine o_pass rfl rfl rfl rfl ?_
      refine o_pass rfl rfl rfl rfl ?_
      refine o_pass rfl rfl rfl rfl ?_
      refine o_pass rfl rfl rfl rfl ?_
      refine o_rd (rd_pick_f rfl rfl) trivial rfl ?_
      refine o_rd (rd_move rfl) trivial rfl ?_
      refine o_rd (rd_move rfl) rfl rfl ?_
      refine o_rd (rd_len (u := 0) T32 rfl) rfl rfl ?_
      refine o_tD (rd_gtr rfl rfl) rfl rfl (fun c12 => ?_) (fun c12 => ?_)
      · refine o_rd (rd_pick_f rfl rfl) trivial rfl ?_
        refine o_rd (rd_move rfl) trivial rfl ?_
        refine o_pass rfl rfl rfl rfl ?_
        refine o_pass rfl rfl rfl rfl ?_
        refine o_pass rfl rfl rfl rfl ?_
        refine o_pass rfl rfl rfl rfl ?_
        refine o_pass rfl rfl rfl rfl ?_
        refine o_pass rfl rfl rfl rfl ?_
        refine o_pass rfl rfl rfl rfl ?_
        refine o_pass rfl rfl rfl rfl ?_
        refine o_pass rfl rfl rfl rfl ?_
        refine o_pass rfl rfl rfl rfl ?_
        refine o_pass rfl rfl rfl rfl ?_
        refine o_pass rfl rfl rfl rfl ?_
        refine o_pass rfl rfl rfl rfl ?_
        refine o_pass rfl rfl rfl rfl ?_
        refine o_pass rfl rfl rfl rfl ?_
        refine o_pass rfl rfl rfl rfl ?_
        refine o_pass rfl rfl rfl rfl ?_
        refine o_rd (rd_pick_t rfl rfl) trivial rfl ?_
        refine runO_nil (run_cond_true rfl (run_seq (run_region_lit ?_)))
        refine o_rd (rd_assign rfl) trivial rfl ?_
        refine runO_nil ?_
        refine run_ret Tryd.func37 (RV.tmp rfl RV.nil) ?_
        -- ret 5 path c1t.c8f.c12t. L ['d', 'fl', 'vals', 'B']
        rw [append_long c1 hf (by omega)]
        exact ⟨rfl, refR_close hcut h⟩
      · refine o_rd (rd_pick_f rfl rfl) trivial rfl ?_
        refine o_rd (rd_move rfl) trivial rfl ?_
        refine o_rd (rd_move rfl) rfl rfl ?_
        refine o_tD (rd_geq rfl rfl) rfl rfl (fun c13 => ?_) (fun c13 => ?_)
        · refine o_rd (rd_move rfl) rfl rfl ?_
          refine o_rd (rd_move rfl) rfl rfl ?_
          refine o_rd (rd_nil rfl) rfl rfl ?_
          refine o_rd (rd_fieldA F73_0 S71 rfl) rfl rfl ?_
          refine o_ld rfl (h.at_ 0 rfl) T71 rfl rfl rfl rfl ?_
          refine o_rd (rd_move rfl) rfl rfl ?_
          refine o_rd (Reads.to (v' := .pointer (some ⟨bb, 0 + pos W.files name * 2, none⟩)) (rd_idx T71 S76 rfl rfl (by omega) (by omega)) (by rw [hk]; rfl)) rfl rfl ?_
          refine o_rd (rd_fieldA F76_1 S32 rfl) rfl rfl ?_
          refine o_ld rfl hb T32 rfl hcb rfl rfl ?_
          refine o_rd (rd_len (u := 0) T32 rfl) rfl rfl ?_
          refine o_rd (rd_move rfl) rfl rfl ?_
          refine o_rd (rd_len (u := 0) T32 rfl) rfl rfl ?_
          refine o_rd (rd_addi rfl rfl (by constructor <;> omega)) rfl rfl ?_
          refine o_tD (rd_gtr rfl rfl) rfl rfl (fun c14 => ?_) (fun c14 => ?_)
          · refine o_rd (rd_pick_t rfl rfl) rfl rfl ?_
            refine o_rd (rd_pick_f rfl rfl) trivial rfl ?_
            refine runO_nil (run_cond_true rfl (run_seq (run_region_lit ?_)))
            refine o_rd (rd_assign rfl) trivial rfl ?_
            refine runO_nil ?_
            refine run_ret Tryd.func37 (RV.tmp rfl RV.nil) ?_
            -- ret 6 path c1t.c8f.c12f.c13t.c14t. L ['d', 'fl', 'vals', 'B']
            rw [append_long c1 hf (by omega)]
            exact ⟨rfl, refR_close hcut h⟩
          · refine o_rd (rd_pick_t rfl rfl) rfl rfl ?_
            refine o_rd (rd_pick_f rfl rfl) trivial rfl ?_
            refine runO_nil (run_cond_false rfl (run_skip ?_))
            -- cut region 4 path c1t.c8f.c12f.c13t.c14f. L ['d', 'fl', 'vals', 'B']
            exact run_fewer (sub_cons rfl (sub_cons rfl (sub_cons rfl (sub_cons rfl (sub_nil _))))) (cut1 () w ⟨refR_close hcut h, append_rest c1 (fun e => by rw [hf] at e; cases e) (by omega) (fun f2 e => by rw [hf] at e; cases e; omega), by rw [hf]; simp only [Option.getD_some]; omega, fun e => by rw [hf] at e; cases e⟩)
        · exact absurd c13 (by rw [hk]; omega)
  · refine o_rd (rd_not rfl) trivial rfl ?_
    refine runO_nil (run_cond_true rfl (run_seq (run_region_lit ?_)))
    refine o_rd (rd_assign rfl) trivial rfl ?_
    refine runO_nil ?_
    refine run_ret Tryd.func37 (RV.tmp rfl RV.nil) ?_
    -- ret 7 path c1f. L ['W', 'B']
    rw [append_bad (by rw [c1]; exact Bool.false_ne_true)]
    exact ⟨rfl, h⟩

theorem ref_Copy {b : Nat} {W : DiskV} {w : World} {R : List Hp} (hlen : W.files.length ≤ 1000000) (hok : ∀ (i : Nat) (p : ByteArray × List UInt8), W.files[i]? = some p → p.2.length ≤ 140737488355328) (h : Sat w (refR b W :: R)) :
    FnC Tryd.prog 12 [(.pointer (some ⟨b, 0, none⟩))] w fun v w' => ∃ b2, v = .pointer (some ⟨b2, 0, none⟩) ∧ Sat w' (refR b2 ⟨W.files, 0, 0, false⟩ :: refR b W :: R) := by
  refine fnC_of_run Tryd.func12 rfl Tryd.ntmps12 (Nat.le_of_ble_eq_true rfl) (fun cs => ?_)
  refine run_seq (run_region_lit ?_)
  refine o_rd (rd_assign rfl) trivial rfl ?_
  refine runO_nil (run_seq (run_region_lit ?_))
  refine o_ef trivial (ef_call (Tryd.call9) rfl rfl ?_)
  refine FnC.mono (ref_New h) ?_
  rintro _ w ⟨b2, rfl, h⟩
  refine o_rd (rd_assign rfl) trivial rfl ?_
  refine runO_nil (run_seq (run_seq ?_))
  obtain ⟨a6, n6, c6, hs, hcut2, hn2, hnc2, hcm2, hkg2, h⟩ := refR_open h
  have hs0 : hs = [] := by cases hs with | nil => rfl | cons => simp [keys] at hkg2
  subst hs0
  subst hn2
  obtain ⟨a, n, c, gs, hcut, hn, hnc, hcm, hkg, h⟩ := refR_open (Sat.bring 3 h)
  subst hn
  have hgl := len_of_keys hkg
  refine run_region_lit ?_
  refine o_rd (rd_move rfl) trivial rfl ?_
  refine o_rd (rd_nil rfl) trivial rfl ?_
  refine o_rd (rd_fieldA F73_0 S71 rfl) trivial rfl ?_
  refine o_ld rfl (h.at_ 0 rfl) T71 rfl rfl trivial rfl ?_
  refine o_rd (rd_len (u := 0) T71 rfl) trivial rfl ?_
  refine o_rd (rd_move rfl) trivial rfl ?_
  refine runO_nil (run_block ?_)
  refine run_loop (σ := Nat × List (ByteArray × Value) × Option Addr × Nat) (fun (i, hs, a6, c6) => [(3, .pointer (some ⟨b2, 0, none⟩)), (10, .slice a gs.length c), (11, .int .i64 gs.length), (12, .int .i64 (i : Nat))]) (fun (i, hs, a6, c6) w => Sat w (pt b (.cells #[.slice a gs.length c, .int .i64 W.writes, .int .i64 (if W.cut then W.left else -1)] 73) :: OwnS 76 2 (.slice a gs.length c) (fcells gs) :: valsR gs W.files :: pt b2 (.cells #[.slice a6 hs.length c6, .int .i64 0, .int .i64 (-1)] 73) :: OwnS 76 2 (.slice a6 hs.length c6) (fcells hs) :: valsR hs (W.files.take i) :: R) ∧ i ≤ gs.length ∧ hs.length ≤ i) (fun (i, hs, a6, c6) => gs.length - i) (0, [], a6, c6) ?_ (sub_cons rfl (sub_cons rfl (sub_cons rfl (sub_cons rfl (sub_nil _))))) ?_
  · exact ⟨h, Nat.zero_le _, Nat.le_refl _⟩
  clear h
  rintro ⟨i, hs, a6, c6⟩ w ⟨h, hi, hil⟩ ih
  refine run_seq (run_region_lit ?_)
  refine o_tD (rd_lss rfl rfl) trivial rfl (fun c1 => ?_) (fun c1 => ?_)
  · refine runO_nil (run_seq (run_cond_true rfl (run_skip (run_seq (run_block (run_seq ?_))))))
    obtain ⟨bb, C, fr, nm, fa, fl, fc, f, ea, hgi, hfi, hfl, hfc, hfm, hb, hcp, hcb, hrow⟩ := file_at 1 2 h rfl rfl (i := i) (by omega)
    subst ea
    have hff := hok i _ hfi
    simp only [] at hff
    refine run_region_lit ?_
    refine o_rd (rd_idx T71 S76 rfl rfl (by omega) (by omega)) trivial rfl ?_
    refine o_ldG rfl hb G76 hcp trivial rfl ?_
    refine o_ef trivial (ef_alloc S76 rfl h (fun t w h => ?_))
    refine o_ef trivial (ef_store S76 0 rfl rfl h rfl rfl rfl (Nat.le_of_ble_eq_true rfl) rfl (fun w h => ?_))
    refine runO_nil ?_
    refine run_drawS 16 2 [(0, true), (1, true), (2, true), (3, true), (4, true), (5, true), (6, true), (8, true), (9, true), (7, false), (10, false), (11, true), (12, false), (13, false), (14, true), (15, true), (16, false)] [(_, true), (_, true), (_, true), (_, true), (_, true), (_, true), (_, true), (_, true), (_, true), (_, false), (_, false), (_, true), (_, false), (_, false), (_, true), (_, true), (_, false)] h (Holds.cons (h.at_ 4 rfl) (Holds.cons (h.at_ 0 rfl) (Holds.nil _))) mixed (by kernel_rfl) rfl ?_
    intro w h hK
    refine d_rd (rd_move rfl) hK trivial rfl ?_
    refine d_rd (rd_move rfl) hK trivial rfl ?_
    refine d_rd (rd_nil rfl) hK trivial rfl ?_
    refine d_rd (rd_fieldA F73_0 S71 rfl) hK trivial rfl ?_
    refine d_ld rfl 0 rfl T71 rfl rfl hK trivial rfl ?_
    refine d_rd (rd_fieldA F76_0 S9 rfl) hK trivial rfl ?_
    refine d_ld rfl 1 rfl T9 rfl rfl hK trivial rfl ?_
    refine d_rd (rd_fieldA F76_1 S32 rfl) hK trivial rfl ?_
    refine d_ld rfl 1 rfl T32 rfl rfl hK trivial rfl ?_
    refine d_ef trivial (ef_slice0 Tryd.underlying32 S5 h rfl (fun s w h => ?_))
    refine ⟨fun _ => (Holds.cons (h.at_ 5 rfl) (Holds.cons (h.at_ 1 rfl) (Holds.nil _))), ?_⟩
    replace hK := (Holds.cons (h.at_ 5 rfl) (Holds.cons (h.at_ 1 rfl) (Holds.nil _)))
    refine d_ef trivial (ef_append Tryd.underlying32 N32 S5 rfl 0 rfl rfl h rfl (Src.slice (h.rowOf 4 rfl hrow) (by rw [bcells_len, hfl]) (ones_bcells _)) (q := 0) rfl rfl (by omega) (by omega) rfl (fun a5 w h => ?_))
    obtain ⟨a7, n7, c7, rfl, hl7, hc7, hm7, _⟩ := Sat.ownRow 0 h rfl
    refine ⟨fun _ => (Holds.cons (h.at_ 5 rfl) (Holds.cons (h.at_ 1 rfl) (Holds.nil _))), ?_⟩
    replace hK := (Holds.cons (h.at_ 5 rfl) (Holds.cons (h.at_ 1 rfl) (Holds.nil _)))
    refine d_rd (Reads.to (v' := .agg #[.string nm, .slice a7 n7 c7]) (rd_build B76 rfl rfl) rfl) hK trivial rfl ?_
    refine d_ef trivial (ef_buildSlice Tryd.underlying71 S76 rfl rfl rfl h rfl (fun s2 w h => ?_))
    refine ⟨fun _ => (Holds.cons (h.at_ 6 rfl) (Holds.cons (h.at_ 2 rfl) (Holds.nil _))), ?_⟩
    replace hK := (Holds.cons (h.at_ 6 rfl) (Holds.cons (h.at_ 2 rfl) (Holds.nil _)))
    refine d_ef trivial (ef_append Tryd.underlying71 N71 S76 rfl 7 rfl rfl h rfl (Src.slice (h.rowPt 0 rfl) rfl rfl) (fcells_len hs) rfl (by omega) (by omega) rfl (fun a5 w h => ?_))
    obtain ⟨a8, n8, c8, rfl, hl8, hc8, hm8, _⟩ := Sat.ownRow 7 h rfl
    have e8 : n8 = (hs ++ [(nm, Value.slice a7 n7 c7)]).length := by
      have e7 : (fcells hs ++ fcells [(nm, Value.slice a7 n7 c7)]).length = n8 * 2 := hl8
      rw [← fcells_append, fcells_len] at e7
      omega
    subst e8
    refine ⟨fun _ => (Holds.cons (h.at_ 6 rfl) (Holds.cons (h.at_ 2 rfl) (Holds.nil _))), ?_⟩
    replace hK := (Holds.cons (h.at_ 6 rfl) (Holds.cons (h.at_ 2 rfl) (Holds.nil _)))
    refine d_rd (rd_nil rfl) hK trivial rfl ?_
    refine d_rd (rd_fieldA F73_0 S71 rfl) hK trivial rfl ?_
    refine d_ef trivial (ef_store S71 6 rfl rfl h rfl rfl rfl (Nat.le_of_ble_eq_true rfl) rfl (fun w h => ?_))
    refine ⟨fun e => absurd rfl e, ?_⟩
    refine d_nil ?_
    refine run_inBlock (run_region_lit ?_)
    refine o_rd (rd_addi rfl rfl (by constructor <;> omega)) trivial rfl ?_
    refine o_rd (rd_move rfl) trivial rfl ?_
    refine runO_nil ?_
    -- round of loop 0 path L0.c1t. L ['s2', 's', 't', 'd', 'fl', 'vals', 'd2', 'fl2', 'vals2']
    replace h := vals_snoc nm (Sat.bring 6 (Sat.bring 6 (Sat.bring 5 (Sat.bring 5 (Sat.bring 3 (Sat.bring 3 (Sat.bring 3 (Sat.out 0 (Sat.out 2 h)))))))))
    rw [← take_snoc hfi] at h
    exact run_fewer (sub_cons rfl (sub_cons rfl (sub_cons rfl (sub_cons rfl (sub_nil _))))) (ih (i + 1, hs ++ [(nm, .slice a7 n7 c7)], a8, c8) w ⟨by simp only [fcells_append]; exact Sat.bring 5 (Sat.bring 5 (Sat.bring 5 (Sat.bring 2 (Sat.bring 2 h)))), by omega, by simp only [List.length_append, List.length_cons, List.length_nil]; omega⟩ (by simp only []; omega))
  · refine runO_nil (run_seq (run_cond_false rfl (run_exit rfl (run_seq (run_region_lit ?_)))))
    refine o_rd (rd_move rfl) trivial rfl ?_
    refine o_rd (rd_assign rfl) trivial rfl ?_
    refine runO_nil ?_
    refine run_ret Tryd.func12 (RV.tmp rfl RV.nil) ?_
    -- ret 0 path L0.c1f. L ['d', 'fl', 'vals', 'd2', 'fl2', 'vals2']
    rw [List.take_of_length_le (by omega)] at h
    exact ⟨b2, rfl, refR_close (W := ⟨W.files, 0, 0, false⟩) (by intro e; cases e) (Sat.bring 3 (Sat.bring 3 (Sat.bring 3 (refR_close hcut h))))⟩

end Go.Proofs.YtmhpgdpegneejaaDoor
