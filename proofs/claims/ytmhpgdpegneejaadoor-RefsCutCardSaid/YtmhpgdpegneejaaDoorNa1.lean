import Derived.Test.YtmhpgdpegneejaaDoorNa0
import Derived.Test.YtmhpgdpegneejaaDoorOc1
set_option maxRecDepth 100000
set_option linter.unusedVariables false
set_option linter.unusedSimpArgs false
namespace Go.Proofs.YtmhpgdpegneejaaDoor
open Go Go.Proofs Go.Proofs.Slx
theorem na_look {wb ab lb : Nat} {last wrong ahead e : Int} {w : World} {R : List Hp} (h1 : 0 ≤ last) (h2 : last ≤ 1000) (h3 : 0 ≤ e) (h4 : e ≤ 1000) (h : Sat w (pt wb (.cells #[.int .i64 wrong] 3) :: pt ab (.cells #[.int .i32 ahead] 21) :: pt lb (.cells #[.int .i64 last] 3) :: R)) :
    FnC Tryd.prog 109 [.int .i64 e, .pointer (some ⟨wb, 0, none⟩), .pointer (some ⟨ab, 0, none⟩), .pointer (some ⟨lb, 0, none⟩)] w fun v w' => Sat w' (pt wb (.cells #[.int .i64 (lookF last wrong ahead e)] 3) :: pt ab (.cells #[.int .i32 ahead] 21) :: pt lb (.cells #[.int .i64 last] 3) :: R) := by
  refine fnC_of_run Tryd.func109 rfl Tryd.ntmps109 (Nat.le_of_ble_eq_true rfl) (fun cs => ?_)
  refine run_seq (run_region_lit ?_)
  refine o_ld rfl (h.at_ 0 rfl) T3 rfl rfl trivial rfl ?_
  refine o_tD (rd_lss rfl rfl) trivial rfl (fun c1 => ?_) (fun c1 => ?_)
  · refine o_rd (rd_move rfl) trivial rfl ?_
    refine o_ld rfl (h.at_ 1 rfl) T21 rfl rfl rfl rfl ?_
    refine o_tD (rd_eql rfl rfl) rfl rfl (fun c2 => ?_) (fun c2 => ?_)
    · refine o_rd (rd_pick_t rfl rfl) trivial rfl ?_
      refine o_rd (rd_move rfl) trivial rfl ?_
      refine o_rd (rd_move rfl) rfl rfl ?_
      refine o_ld rfl (h.at_ 2 rfl) T3 rfl rfl rfl rfl ?_
      refine o_rd (rd_subi rfl rfl (by constructor <;> omega)) rfl rfl ?_
      refine o_tD (rd_lss rfl rfl) rfl rfl (fun c3 => ?_) (fun c3 => ?_)
      · refine o_rd (rd_pick_t rfl rfl) trivial rfl ?_
        refine runO_nil (run_cond_true rfl (run_region_lit ?_))
        refine o_ld rfl (h.at_ 2 rfl) T3 rfl rfl trivial rfl ?_
        refine o_ef trivial (ef_store S3 0 rfl rfl h rfl rfl rfl (Nat.le_of_ble_eq_true rfl) rfl (fun w h => ?_))
        replace h := Sat.conv (B := pt wb (.cells #[.int .i64 last] 3)) 0 h rfl (fun _ x => x)
        refine runO_nil ?_
        refine run_end Tryd.func109 RV.nil ?_
        -- ret 0 path c1t.c2t.c3t. L ['wb', 'ab', 'lb']
        first | (rw [show lookF last wrong ahead e = last by unfold lookF; exact if_pos ⟨by omega, by omega, by omega⟩]; exact h) | (rw [show lookF last wrong ahead e = wrong by unfold lookF; exact if_neg (by rintro ⟨q1, q2, q3⟩; omega)]; exact h)
      · refine o_rd (rd_pick_t rfl rfl) trivial rfl ?_
        refine runO_nil (run_cond_false rfl (run_skip ?_))
        refine run_end Tryd.func109 RV.nil ?_
        -- ret 1 path c1t.c2t.c3f. L ['wb', 'ab', 'lb']
        first | (rw [show lookF last wrong ahead e = last by unfold lookF; exact if_pos ⟨by omega, by omega, by omega⟩]; exact h) | (rw [show lookF last wrong ahead e = wrong by unfold lookF; exact if_neg (by rintro ⟨q1, q2, q3⟩; omega)]; exact h)
    · refine o_rd (rd_pick_t rfl rfl) trivial rfl ?_
      refine o_rd (rd_move rfl) trivial rfl ?_
      refine o_pass rfl rfl rfl rfl ?_
      refine o_pass rfl rfl rfl rfl ?_
      refine o_pass rfl rfl rfl rfl ?_
      refine o_pass rfl rfl rfl rfl ?_
      refine o_rd (rd_pick_f rfl rfl) trivial rfl ?_
      refine runO_nil (run_cond_false rfl (run_skip ?_))
      refine run_end Tryd.func109 RV.nil ?_
      -- ret 2 path c1t.c2f. L ['wb', 'ab', 'lb']
      first | (rw [show lookF last wrong ahead e = last by unfold lookF; exact if_pos ⟨by omega, by omega, by omega⟩]; exact h) | (rw [show lookF last wrong ahead e = wrong by unfold lookF; exact if_neg (by rintro ⟨q1, q2, q3⟩; omega)]; exact h)
  · refine o_rd (rd_move rfl) trivial rfl ?_
    refine o_pass rfl rfl rfl rfl ?_
    refine o_pass rfl rfl rfl rfl ?_
    refine o_rd (rd_pick_f rfl rfl) trivial rfl ?_
    refine o_rd (rd_move rfl) trivial rfl ?_
    refine o_pass rfl rfl rfl rfl ?_
    refine o_pass rfl rfl rfl rfl ?_
    refine o_pass rfl rfl rfl rfl ?_
    refine o_pass rfl rfl rfl rfl ?_
    refine o_rd (rd_pick_f rfl rfl) trivial rfl ?_
    refine runO_nil (run_cond_false rfl (run_skip ?_))
    refine run_end Tryd.func109 RV.nil ?_
    -- ret 3 path c1f. L ['wb', 'ab', 'lb']
    first | (rw [show lookF last wrong ahead e = last by unfold lookF; exact if_pos ⟨by omega, by omega, by omega⟩]; exact h) | (rw [show lookF last wrong ahead e = wrong by unfold lookF; exact if_neg (by rintro ⟨q1, q2, q3⟩; omega)]; exact h)

theorem na_Check {s : ByteArray} {w : World} {R : List Hp} (hsz : s.size ≤ 1000000000) (h : Sat w R) :
    FnC Tryd.prog 98 [.string s] w fun v w' => v = .agg #[.int .i64 (chk s).1, .int .i64 (chk s).2] ∧ Sat w' R := by
  refine fnC_of_run Tryd.func98 rfl Tryd.ntmps98 (Nat.le_of_ble_eq_true rfl) (fun cs => ?_)
  refine run_seq (run_region_lit ?_)
  refine o_ef trivial (ef_alloc S126 rfl h (fun rb w h => ?_))
  replace h := Sat.conv (B := pt rb (.cells #[.int .i64 0, .int .i64 0] 126)) 0 h rfl (fun _ x => x)
  refine runO_nil (run_seq (run_block (run_seq (run_seq (run_region_lit ?_)))))
  refine o_rd (rd_move rfl) trivial rfl ?_
  refine o_tD (rd_eqlS rfl rfl) trivial rfl (fun c1 => ?_) (fun c1 => ?_)
  · refine o_rd (rd_assign rfl) trivial rfl ?_
    refine runO_nil (run_cond_true rfl (run_skip (run_cond_true rfl (run_seq (run_region_lit ?_)))))
    refine o_rd (Reads.to (v' := .agg #[.int .i64 140, .int .i64 0]) (rd_build B126 rfl rfl) rfl) trivial rfl ?_
    refine o_ef trivial (ef_store S126 0 rfl rfl h rfl rfl rfl (Nat.le_of_ble_eq_true rfl) rfl (fun w h => ?_))
    replace h := Sat.conv (B := pt rb (.cells #[.int .i64 140, .int .i64 0] 126)) 0 h rfl (fun _ x => x)
    refine runO_nil ?_
    refine run_ret Tryd.func98 (RV.cell rfl (run_loadG G126 (h.at_ 0 rfl) rfl) RV.nil) ?_
    -- ret 0 path c1t. L ['rb']
    rw [show chk s = (140, 0) by unfold chk; exact if_pos (.inl c1)]
    exact ⟨rfl, (Sat.out 0 h)⟩
  · refine o_rd (rd_assign rfl) trivial rfl ?_
    refine runO_nil (run_cond_false rfl (run_seq (run_region_lit ?_)))
    refine o_rd (rd_move rfl) trivial rfl ?_
    refine o_tD (rd_eqlS rfl rfl) trivial rfl (fun c2 => ?_) (fun c2 => ?_)
    · refine o_rd (rd_assign rfl) trivial rfl ?_
      refine runO_nil (run_cond_true rfl (run_skip (run_cond_true rfl (run_seq (run_region_lit ?_)))))
      refine o_rd (Reads.to (v' := .agg #[.int .i64 140, .int .i64 0]) (rd_build B126 rfl rfl) rfl) trivial rfl ?_
      refine o_ef trivial (ef_store S126 0 rfl rfl h rfl rfl rfl (Nat.le_of_ble_eq_true rfl) rfl (fun w h => ?_))
      replace h := Sat.conv (B := pt rb (.cells #[.int .i64 140, .int .i64 0] 126)) 0 h rfl (fun _ x => x)
      refine runO_nil ?_
      refine run_ret Tryd.func98 (RV.cell rfl (run_loadG G126 (h.at_ 0 rfl) rfl) RV.nil) ?_
      -- ret 1 path c1f.c2t. L ['rb']
      rw [show chk s = (140, 0) by unfold chk; exact if_pos (.inr (.inl c2))]
      exact ⟨rfl, (Sat.out 0 h)⟩
    · refine o_rd (rd_assign rfl) trivial rfl ?_
      refine runO_nil (run_cond_false rfl (run_region_lit ?_))
      refine o_rd (rd_move rfl) trivial rfl ?_
      refine o_tD (rd_eqlS rfl rfl) trivial rfl (fun c3 => ?_) (fun c3 => ?_)
      · refine o_rd (rd_assign rfl) trivial rfl ?_
        refine runO_nil (run_cond_true rfl (run_seq (run_region_lit ?_)))
        refine o_rd (Reads.to (v' := .agg #[.int .i64 140, .int .i64 0]) (rd_build B126 rfl rfl) rfl) trivial rfl ?_
        refine o_ef trivial (ef_store S126 0 rfl rfl h rfl rfl rfl (Nat.le_of_ble_eq_true rfl) rfl (fun w h => ?_))
        replace h := Sat.conv (B := pt rb (.cells #[.int .i64 140, .int .i64 0] 126)) 0 h rfl (fun _ x => x)
        refine runO_nil ?_
        refine run_ret Tryd.func98 (RV.cell rfl (run_loadG G126 (h.at_ 0 rfl) rfl) RV.nil) ?_
        -- ret 2 path c1f.c2f.c3t. L ['rb']
        rw [show chk s = (140, 0) by unfold chk; exact if_pos (.inr (.inr c3))]
        exact ⟨rfl, (Sat.out 0 h)⟩
      · refine o_rd (rd_assign rfl) trivial rfl ?_
        refine runO_nil (run_cond_false rfl (run_seq (run_region_lit ?_)))
        refine o_rd (rd_move rfl) trivial rfl ?_
        refine o_rd (rd_lenS T9 rfl) trivial rfl ?_
        refine o_tD (rd_gtr rfl rfl) trivial rfl (fun c4 => ?_) (fun c4 => ?_)
        · refine o_rd (rd_assign rfl) trivial rfl ?_
          refine runO_nil (run_cond_true rfl (run_seq (run_region_lit ?_)))
          refine o_rd (Reads.to (v' := .agg #[.int .i64 3, .int .i64 32]) (rd_build B126 rfl rfl) rfl) trivial rfl ?_
          refine o_ef trivial (ef_store S126 0 rfl rfl h rfl rfl rfl (Nat.le_of_ble_eq_true rfl) rfl (fun w h => ?_))
          replace h := Sat.conv (B := pt rb (.cells #[.int .i64 3, .int .i64 32] 126)) 0 h rfl (fun _ x => x)
          refine runO_nil ?_
          refine run_ret Tryd.func98 (RV.cell rfl (run_loadG G126 (h.at_ 0 rfl) rfl) RV.nil) ?_
          -- ret 3 path c1f.c2f.c3f.c4t. L ['rb']
          rw [show chk s = (3, 32) by unfold chk; rw [if_neg (by rintro (q | q | q); exact c1 q; exact c2 q; exact c3 q)]; exact if_pos (by omega)]
          exact ⟨rfl, (Sat.out 0 h)⟩
        · refine o_rd (rd_assign rfl) trivial rfl ?_
          refine runO_nil (run_cond_false rfl (run_skip (run_inBlock (run_seq (run_region_lit ?_)))))
          refine o_ef trivial (ef_alloc S3 rfl h (fun lb w h => ?_))
          refine o_ef trivial (ef_store S3 0 rfl rfl h rfl rfl rfl (Nat.le_of_ble_eq_true rfl) rfl (fun w h => ?_))
          replace h := Sat.conv (B := pt lb (.cells #[.int .i64 0] 3)) 0 h rfl (fun _ x => x)
          refine runO_nil (run_seq (run_region_lit ?_))
          refine o_ef trivial (ef_alloc S3 rfl h (fun wb w h => ?_))
          refine o_ef trivial (ef_store S3 0 rfl rfl h rfl rfl rfl (Nat.le_of_ble_eq_true rfl) rfl (fun w h => ?_))
          replace h := Sat.conv (B := pt wb (.cells #[.int .i64 (-1)] 3)) 0 h rfl (fun _ x => x)
          refine runO_nil (run_seq (run_region_lit ?_))
          refine o_ef trivial (ef_alloc S21 rfl h (fun ab w h => ?_))
          refine o_ef trivial (ef_store S21 0 rfl rfl h rfl rfl rfl (Nat.le_of_ble_eq_true rfl) rfl (fun w h => ?_))
          replace h := Sat.conv (B := pt ab (.cells #[.int .i32 32] 21)) 0 h rfl (fun _ x => x)
          refine runO_nil (run_seq (run_region_lit ?_))
          refine o_rd (rd_funcL rfl) trivial rfl ?_
          refine o_rd (rd_assign rfl) trivial rfl ?_
          refine runO_nil (run_seq (run_seq (run_region_lit ?_)))
          refine o_rd (rd_move rfl) trivial rfl ?_
          refine o_ef trivial (ef_rangeS Tryd.underlying9 rfl h rfl (fun it w h => ?_))
          refine runO_nil ?_
          refine run_cutA 0 (σ := Int × Int × Int) (fun (last, wrong, ahead) => [(0, .string s), (2, .pointer (some ⟨rb, 0, none⟩)), (3, .pointer (some ⟨lb, 0, none⟩)), (4, .pointer (some ⟨wb, 0, none⟩)), (5, .pointer (some ⟨ab, 0, none⟩)), (6, .func (.func 109) #[] #[.pointer (some ⟨wb, 0, none⟩), .pointer (some ⟨ab, 0, none⟩), .pointer (some ⟨lb, 0, none⟩)])]) (fun (last, wrong, ahead) w => Sat w (pt wb (.cells #[.int .i64 wrong] 3) :: pt ab (.cells #[.int .i32 ahead] 21) :: pt lb (.cells #[.int .i64 last] 3) :: pt rb (.cells #[.int .i64 0, .int .i64 0] 126) :: R) ∧ chkL s 0 0 (-1) 32 = (last, wrong, ahead) ∧ 0 ≤ last ∧ last ≤ 32) ?_ (fun cut1 => ?_)
          · clear h
            rintro ⟨last, wrong, ahead⟩ w ⟨h, hck, hl1, hl2⟩
            refine run_seq (run_seq (run_region_lit ?_))
            refine o_rd (rd_move rfl) trivial rfl ?_
            refine o_rd (rd_move rfl) trivial rfl ?_
            refine o_rd (rd_lenS T9 rfl) trivial rfl ?_
            refine o_ef trivial (ef_callV rfl (Tryd.call109) rfl rfl ?_)
            refine FnC.mono (na_look (e := (s.size : Int)) (by omega) (by omega) (by omega) (by omega) h) ?_
            rintro _ w h
            refine runO_nil (run_seq (run_region_lit ?_))
            refine o_ld rfl (h.at_ 0 rfl) T3 rfl rfl trivial rfl ?_
            refine o_tD (rd_geq rfl rfl) trivial rfl (fun c5 => ?_) (fun c5 => ?_)
            · refine runO_nil (run_cond_true rfl (run_seq (run_region_lit ?_)))
              refine o_ld rfl (h.at_ 0 rfl) T3 rfl rfl trivial rfl ?_
              refine o_rd (Reads.to (v' := .agg #[.int .i64 140, .int .i64 (lookF last wrong ahead s.size)]) (rd_build B126 rfl rfl) rfl) trivial rfl ?_
              refine o_ef trivial (ef_store S126 3 rfl rfl h rfl rfl rfl (Nat.le_of_ble_eq_true rfl) rfl (fun w h => ?_))
              replace h := Sat.conv (B := pt rb (.cells #[.int .i64 140, .int .i64 (lookF last wrong ahead s.size)] 126)) 3 h rfl (fun _ x => x)
              refine runO_nil ?_
              refine run_ret Tryd.func98 (RV.cell rfl (run_loadG G126 (h.at_ 3 rfl) rfl) RV.nil) ?_
              -- ret 4 path c1f.c2f.c3f.c4f.K.c5t. L ['wb', 'ab', 'lb', 'rb']
              rw [show chk s = (140, lookF last wrong ahead s.size) by unfold chk; rw [if_neg (by rintro (q | q | q); exact c1 q; exact c2 q; exact c3 q), if_neg (by omega), hck]; exact if_pos c5]
              exact ⟨rfl, (Sat.out 0 (Sat.out 1 (Sat.out 2 (Sat.out 3 h))))⟩
            · refine runO_nil (run_cond_false rfl (run_skip (run_seq (run_region_lit ?_))))
              refine o_rd (Reads.to (v' := .agg #[.int .i64 0, .int .i64 0]) (rd_build B126 rfl rfl) rfl) trivial rfl ?_
              refine o_ef trivial (ef_store S126 3 rfl rfl h rfl rfl rfl (Nat.le_of_ble_eq_true rfl) rfl (fun w h => ?_))
              replace h := Sat.conv (B := pt rb (.cells #[.int .i64 0, .int .i64 0] 126)) 3 h rfl (fun _ x => x)
              refine runO_nil ?_
              refine run_ret Tryd.func98 (RV.cell rfl (run_loadG G126 (h.at_ 3 rfl) rfl) RV.nil) ?_
              -- ret 5 path c1f.c2f.c3f.c4f.K.c5f. L ['wb', 'ab', 'lb', 'rb']
              rw [show chk s = (0, 0) by unfold chk; rw [if_neg (by rintro (q | q | q); exact c1 q; exact c2 q; exact c3 q), if_neg (by omega), hck]; exact if_neg c5]
              exact ⟨rfl, (Sat.out 0 (Sat.out 1 (Sat.out 2 (Sat.out 3 h))))⟩
          refine run_block ?_
          refine run_loop (σ := Nat × Int × Int × Int) (fun (p, last, wrong, ahead) => [(0, .string s), (2, .pointer (some ⟨rb, 0, none⟩)), (3, .pointer (some ⟨lb, 0, none⟩)), (4, .pointer (some ⟨wb, 0, none⟩)), (5, .pointer (some ⟨ab, 0, none⟩)), (6, .func (.func 109) #[] #[.pointer (some ⟨wb, 0, none⟩), .pointer (some ⟨ab, 0, none⟩), .pointer (some ⟨lb, 0, none⟩)]), (24, .pointer (some ⟨it, 0, none⟩))]) (fun (p, last, wrong, ahead) w => Sat w (pt it (.stringIter s p) :: pt wb (.cells #[.int .i64 wrong] 3) :: pt ab (.cells #[.int .i32 ahead] 21) :: pt lb (.cells #[.int .i64 last] 3) :: pt rb (.cells #[.int .i64 0, .int .i64 0] 126) :: R) ∧ chkL s p last wrong ahead = chkL s 0 0 (-1) 32 ∧ 0 ≤ last ∧ last ≤ 32) (fun (p, last, wrong, ahead) => s.size - p) (0, 0, -1, 32) ?_ (sub_cons rfl (sub_cons rfl (sub_cons rfl (sub_cons rfl (sub_cons rfl (sub_cons rfl (sub_cons rfl (sub_nil _)))))))) ?_
          · exact ⟨(Sat.bring 4 (Sat.bring 4 (Sat.bring 3 (Sat.bring 4 (Sat.bring 4 h))))), rfl, by omega, by omega⟩
          clear h
          rintro ⟨p, last, wrong, ahead⟩ w ⟨h, hck, hl1, hl2⟩ ih
          refine run_seq (run_region_lit ?_)
          refine o_ef trivial (ef_nextS 0 rfl h rfl rfl (fun hp w h => ?_) (fun hp w h => ?_))
          · refine o_rd (rd_extract rfl rfl) trivial rfl ?_
            refine runO_nil (run_seq (run_cond_false rfl (run_exit rfl ?_)))
            -- cut block 1 path c1f.c2f.c3f.c4f.L0.N0. L ['it', 'wb', 'ab', 'lb', 'rb']
            exact run_fewer (sub_cons rfl (sub_cons rfl (sub_cons rfl (sub_cons rfl (sub_cons rfl (sub_cons rfl (sub_nil _))))))) (cut1 (last, wrong, ahead) w ⟨(Sat.out 0 h), by rw [← hck, chkL_out hp], hl1, hl2⟩)
          · refine o_rd (rd_extract rfl rfl) trivial rfl ?_
            refine runO_nil (run_seq (run_cond_true rfl (run_skip (run_block (run_seq (run_region_lit ?_))))))
            refine o_rd (rd_extract rfl rfl) trivial rfl ?_
            refine o_rd (rd_extract rfl rfl) trivial rfl ?_
            refine o_rd (rd_assign rfl) trivial rfl ?_
            refine o_rd (rd_assign rfl) trivial rfl ?_
            refine runO_nil (run_seq (run_seq (run_region_lit ?_)))
            refine o_rd (rd_move rfl) trivial rfl ?_
            refine o_tD (rd_gtr rfl rfl) trivial rfl (fun c6 => ?_) (fun c6 => ?_)
            · have hw : wr1 p last wrong ahead = lookF last wrong ahead p := if_pos (by omega)
              refine runO_nil (run_cond_true rfl (run_region_lit ?_))
              refine o_rd (rd_move rfl) trivial rfl ?_
              refine o_rd (rd_move rfl) trivial rfl ?_
              refine o_ef trivial (ef_callV rfl (Tryd.call109) rfl rfl ?_)
              refine FnC.mono (na_look (e := (p : Int)) (by omega) (by omega) (by omega) (by omega) (Sat.bring 3 (Sat.bring 3 (Sat.bring 3 h)))) ?_
              rintro _ w h
              refine runO_nil (run_seq (run_seq (run_region_lit ?_)))
              refine o_ld rfl (h.at_ 0 rfl) T3 rfl rfl trivial rfl ?_
              refine o_tD (rd_geq rfl rfl) trivial rfl (fun c7 => ?_) (fun c7 => ?_)
              · refine runO_nil (run_cond_true rfl (run_exit rfl ?_))
                -- cut block 1 path c1f.c2f.c3f.c4f.L0.N1.c6t.c7t. L ['wb', 'ab', 'lb', 'it', 'rb']
                exact run_fewer (sub_cons rfl (sub_cons rfl (sub_cons rfl (sub_cons rfl (sub_cons rfl (sub_cons rfl (sub_nil _))))))) (cut1 (last, wr1 p last wrong ahead, ahead) w ⟨by rw [hw]; exact (Sat.out 3 h), by rw [← hck, chkL_stop hp (by rw [hw]; exact c7)], hl1, hl2⟩)
              · refine runO_nil (run_cond_false rfl (run_skip (run_seq (run_region_lit ?_))))
                refine o_rd (rd_move rfl) trivial rfl ?_
                refine o_rd (rd_move rfl) trivial rfl ?_
                refine o_ef trivial (ef_store S3 2 rfl rfl h rfl rfl rfl (Nat.le_of_ble_eq_true rfl) rfl (fun w h => ?_))
                replace h := Sat.conv (B := pt lb (.cells #[.int .i64 p] 3)) 2 h rfl (fun _ x => x)
                refine o_ef trivial (ef_store S21 1 rfl rfl h rfl rfl rfl (Nat.le_of_ble_eq_true rfl) rfl (fun w h => ?_))
                replace h := Sat.conv (B := pt ab (.cells #[.int .i32 (Utf8.decode s p).1] 21)) 1 h rfl (fun _ x => x)
                refine runO_nil (run_block (run_seq (run_seq (run_region_lit ?_))))
                refine o_rd (rd_move rfl) trivial rfl ?_
                refine o_tD (rd_lss rfl rfl) trivial rfl (fun c8 => ?_) (fun c8 => ?_)
                · refine o_rd (rd_assign rfl) trivial rfl ?_
                  refine runO_nil (run_cond_true rfl (run_skip (run_cond_true rfl (run_region_lit ?_))))
                  refine o_rd (rd_move rfl) trivial rfl ?_
                  refine o_ef trivial (ef_store S3 0 rfl rfl h rfl rfl rfl (Nat.le_of_ble_eq_true rfl) rfl (fun w h => ?_))
                  replace h := Sat.conv (B := pt wb (.cells #[.int .i64 p] 3)) 0 h rfl (fun _ x => x)
                  refine runO_nil (run_inBlock (run_inBlock ?_))
                  -- round of loop 0 path c1f.c2f.c3f.c4f.L0.N1.c6t.c7f.c8t. L ['wb', 'ab', 'lb', 'it', 'rb']
                  exact run_fewer (sub_cons rfl (sub_cons rfl (sub_cons rfl (sub_cons rfl (sub_cons rfl (sub_cons rfl (sub_cons rfl (sub_nil _)))))))) (ih (p + (Utf8.decode s p).2, (p : Int), (p : Int), ((Utf8.decode s p).1 : Int)) w ⟨(Sat.bring 4 (Sat.bring 3 (Sat.bring 3 (Sat.bring 3 (Sat.bring 4 h))))), by rw [← hck, chkL_go hp (by rw [hw]; exact c7), if_pos (show badR _ by unfold badR; omega)], by omega, by omega⟩ (by have := decode_pos s p; simp only []; omega))
                · refine o_rd (rd_assign rfl) trivial rfl ?_
                  refine runO_nil (run_cond_false rfl (run_seq (run_region_lit ?_)))
                  refine o_rd (rd_move rfl) trivial rfl ?_
                  refine o_tD (rd_eql rfl rfl) trivial rfl (fun c9 => ?_) (fun c9 => ?_)
                  · refine o_rd (rd_assign rfl) trivial rfl ?_
                    refine runO_nil (run_cond_true rfl (run_skip (run_cond_true rfl (run_region_lit ?_))))
                    refine o_rd (rd_move rfl) trivial rfl ?_
                    refine o_ef trivial (ef_store S3 0 rfl rfl h rfl rfl rfl (Nat.le_of_ble_eq_true rfl) rfl (fun w h => ?_))
                    replace h := Sat.conv (B := pt wb (.cells #[.int .i64 p] 3)) 0 h rfl (fun _ x => x)
                    refine runO_nil (run_inBlock (run_inBlock ?_))
                    -- round of loop 0 path c1f.c2f.c3f.c4f.L0.N1.c6t.c7f.c8f.c9t. L ['wb', 'ab', 'lb', 'it', 'rb']
                    exact run_fewer (sub_cons rfl (sub_cons rfl (sub_cons rfl (sub_cons rfl (sub_cons rfl (sub_cons rfl (sub_cons rfl (sub_nil _)))))))) (ih (p + (Utf8.decode s p).2, (p : Int), (p : Int), ((Utf8.decode s p).1 : Int)) w ⟨(Sat.bring 4 (Sat.bring 3 (Sat.bring 3 (Sat.bring 3 (Sat.bring 4 h))))), by rw [← hck, chkL_go hp (by rw [hw]; exact c7), if_pos (show badR _ by unfold badR; omega)], by omega, by omega⟩ (by have := decode_pos s p; simp only []; omega))
                  · refine o_rd (rd_assign rfl) trivial rfl ?_
                    refine runO_nil (run_cond_false rfl (run_region_lit ?_))
                    refine o_rd (rd_move rfl) trivial rfl ?_
                    refine o_tD (rd_eql rfl rfl) trivial rfl (fun c10 => ?_) (fun c10 => ?_)
                    · refine o_rd (rd_assign rfl) trivial rfl ?_
                      refine runO_nil (run_cond_true rfl (run_region_lit ?_))
                      refine o_rd (rd_move rfl) trivial rfl ?_
                      refine o_ef trivial (ef_store S3 0 rfl rfl h rfl rfl rfl (Nat.le_of_ble_eq_true rfl) rfl (fun w h => ?_))
                      replace h := Sat.conv (B := pt wb (.cells #[.int .i64 p] 3)) 0 h rfl (fun _ x => x)
                      refine runO_nil (run_inBlock (run_inBlock ?_))
                      -- round of loop 0 path c1f.c2f.c3f.c4f.L0.N1.c6t.c7f.c8f.c9f.c10t. L ['wb', 'ab', 'lb', 'it', 'rb']
                      exact run_fewer (sub_cons rfl (sub_cons rfl (sub_cons rfl (sub_cons rfl (sub_cons rfl (sub_cons rfl (sub_cons rfl (sub_nil _)))))))) (ih (p + (Utf8.decode s p).2, (p : Int), (p : Int), ((Utf8.decode s p).1 : Int)) w ⟨(Sat.bring 4 (Sat.bring 3 (Sat.bring 3 (Sat.bring 3 (Sat.bring 4 h))))), by rw [← hck, chkL_go hp (by rw [hw]; exact c7), if_pos (show badR _ by unfold badR; omega)], by omega, by omega⟩ (by have := decode_pos s p; simp only []; omega))
                    · refine o_rd (rd_assign rfl) trivial rfl ?_
                      refine runO_nil (run_cond_false rfl (run_skip (run_inBlock (run_inBlock ?_))))
                      -- round of loop 0 path c1f.c2f.c3f.c4f.L0.N1.c6t.c7f.c8f.c9f.c10f. L ['wb', 'ab', 'lb', 'it', 'rb']
                      exact run_fewer (sub_cons rfl (sub_cons rfl (sub_cons rfl (sub_cons rfl (sub_cons rfl (sub_cons rfl (sub_cons rfl (sub_nil _)))))))) (ih (p + (Utf8.decode s p).2, (p : Int), (lookF last wrong ahead p), ((Utf8.decode s p).1 : Int)) w ⟨(Sat.bring 4 (Sat.bring 3 (Sat.bring 3 (Sat.bring 3 (Sat.bring 4 h))))), by rw [← hck, chkL_go hp (by rw [hw]; exact c7), if_neg (show ¬badR _ by unfold badR; omega), hw], by omega, by omega⟩ (by have := decode_pos s p; simp only []; omega))
            · have hw : wr1 p last wrong ahead = wrong := if_neg (by omega)
              refine runO_nil (run_cond_false rfl (run_skip (run_seq (run_seq (run_region_lit ?_)))))
              refine o_ld rfl (h.at_ 1 rfl) T3 rfl rfl trivial rfl ?_
              refine o_tD (rd_geq rfl rfl) trivial rfl (fun c11 => ?_) (fun c11 => ?_)
              · refine runO_nil (run_cond_true rfl (run_exit rfl ?_))
                -- cut block 1 path c1f.c2f.c3f.c4f.L0.N1.c6f.c11t. L ['it', 'wb', 'ab', 'lb', 'rb']
                exact run_fewer (sub_cons rfl (sub_cons rfl (sub_cons rfl (sub_cons rfl (sub_cons rfl (sub_cons rfl (sub_nil _))))))) (cut1 (last, wr1 p last wrong ahead, ahead) w ⟨by rw [hw]; exact (Sat.out 0 h), by rw [← hck, chkL_stop hp (by rw [hw]; exact c11)], hl1, hl2⟩)
              · refine runO_nil (run_cond_false rfl (run_skip (run_seq (run_region_lit ?_))))
                refine o_rd (rd_move rfl) trivial rfl ?_
                refine o_rd (rd_move rfl) trivial rfl ?_
                refine o_ef trivial (ef_store S3 3 rfl rfl h rfl rfl rfl (Nat.le_of_ble_eq_true rfl) rfl (fun w h => ?_))
                replace h := Sat.conv (B := pt lb (.cells #[.int .i64 p] 3)) 3 h rfl (fun _ x => x)
                refine o_ef trivial (ef_store S21 2 rfl rfl h rfl rfl rfl (Nat.le_of_ble_eq_true rfl) rfl (fun w h => ?_))
                replace h := Sat.conv (B := pt ab (.cells #[.int .i32 (Utf8.decode s p).1] 21)) 2 h rfl (fun _ x => x)
                refine runO_nil (run_block (run_seq (run_seq (run_region_lit ?_))))
                refine o_rd (rd_move rfl) trivial rfl ?_
                refine o_tD (rd_lss rfl rfl) trivial rfl (fun c12 => ?_) (fun c12 => ?_)
                · refine o_rd (rd_assign rfl) trivial rfl ?_
                  refine runO_nil (run_cond_true rfl (run_skip (run_cond_true rfl (run_region_lit ?_))))
                  refine o_rd (rd_move rfl) trivial rfl ?_
                  refine o_ef trivial (ef_store S3 1 rfl rfl h rfl rfl rfl (Nat.le_of_ble_eq_true rfl) rfl (fun w h => ?_))
                  replace h := Sat.conv (B := pt wb (.cells #[.int .i64 p] 3)) 1 h rfl (fun _ x => x)
                  refine runO_nil (run_inBlock (run_inBlock ?_))
                  -- round of loop 0 path c1f.c2f.c3f.c4f.L0.N1.c6f.c11f.c12t. L ['it', 'wb', 'ab', 'lb', 'rb']
                  exact run_fewer (sub_cons rfl (sub_cons rfl (sub_cons rfl (sub_cons rfl (sub_cons rfl (sub_cons rfl (sub_cons rfl (sub_nil _)))))))) (ih (p + (Utf8.decode s p).2, (p : Int), (p : Int), ((Utf8.decode s p).1 : Int)) w ⟨h, by rw [← hck, chkL_go hp (by rw [hw]; exact c11), if_pos (show badR _ by unfold badR; omega)], by omega, by omega⟩ (by have := decode_pos s p; simp only []; omega))
                · refine o_rd (rd_assign rfl) trivial rfl ?_
                  refine runO_nil (run_cond_false rfl (run_seq (run_region_lit ?_)))
                  refine o_rd (rd_move rfl) trivial rfl ?_
                  refine o_tD (rd_eql rfl rfl) trivial rfl (fun c13 => ?_) (fun c13 => ?_)
                  · refine o_rd (rd_assign rfl) trivial rfl ?_
                    refine runO_nil (run_cond_true rfl (run_skip (run_cond_true rfl (run_region_lit ?_))))
                    refine o_rd (rd_move rfl) trivial rfl ?_
                    refine o_ef trivial (ef_store S3 1 rfl rfl h rfl rfl rfl (Nat.le_of_ble_eq_true rfl) rfl (fun w h => ?_))
                    replace h := Sat.conv (B := pt wb (.cells #[.int .i64 p] 3)) 1 h rfl (fun _ x => x)
                    refine runO_nil (run_inBlock (run_inBlock ?_))
                    -- round of loop 0 path c1f.c2f.c3f.c4f.L0.N1.c6f.c11f.c12f.c13t. L ['it', 'wb', 'ab', 'lb', 'rb']
                    exact run_fewer (sub_cons rfl (sub_cons rfl (sub_cons rfl (sub_cons rfl (sub_cons rfl (sub_cons rfl (sub_cons rfl (sub_nil _)))))))) (ih (p + (Utf8.decode s p).2, (p : Int), (p : Int), ((Utf8.decode s p).1 : Int)) w ⟨h, by rw [← hck, chkL_go hp (by rw [hw]; exact c11), if_pos (show badR _ by unfold badR; omega)], by omega, by omega⟩ (by have := decode_pos s p; simp only []; omega))
                  · refine o_rd (rd_assign rfl) trivial rfl ?_
                    refine runO_nil (run_cond_false rfl (run_region_lit ?_))
                    refine o_rd (rd_move rfl) trivial rfl ?_
                    refine o_tD (rd_eql rfl rfl) trivial rfl (fun c14 => ?_) (fun c14 => ?_)
                    · refine o_rd (rd_assign rfl) trivial rfl ?_
                      refine runO_nil (run_cond_true rfl (run_region_lit ?_))
                      refine o_rd (rd_move rfl) trivial rfl ?_
                      refine o_ef trivial (ef_store S3 1 rfl rfl h rfl rfl rfl (Nat.le_of_ble_eq_true rfl) rfl (fun w h => ?_))
                      replace h := Sat.conv (B := pt wb (.cells #[.int .i64 p] 3)) 1 h rfl (fun _ x => x)
                      refine runO_nil (run_inBlock (run_inBlock ?_))
                      -- round of loop 0 path c1f.c2f.c3f.c4f.L0.N1.c6f.c11f.c12f.c13f.c14t. L ['it', 'wb', 'ab', 'lb', 'rb']
                      exact run_fewer (sub_cons rfl (sub_cons rfl (sub_cons rfl (sub_cons rfl (sub_cons rfl (sub_cons rfl (sub_cons rfl (sub_nil _)))))))) (ih (p + (Utf8.decode s p).2, (p : Int), (p : Int), ((Utf8.decode s p).1 : Int)) w ⟨h, by rw [← hck, chkL_go hp (by rw [hw]; exact c11), if_pos (show badR _ by unfold badR; omega)], by omega, by omega⟩ (by have := decode_pos s p; simp only []; omega))
                    · refine o_rd (rd_assign rfl) trivial rfl ?_
                      refine runO_nil (run_cond_false rfl (run_skip (run_inBlock (run_inBlock ?_))))
                      -- round of loop 0 path c1f.c2f.c3f.c4f.L0.N1.c6f.c11f.c12f.c13f.c14f. L ['it', 'wb', 'ab', 'lb', 'rb']
                      exact run_fewer (sub_cons rfl (sub_cons rfl (sub_cons rfl (sub_cons rfl (sub_cons rfl (sub_cons rfl (sub_cons rfl (sub_nil _)))))))) (ih (p + (Utf8.decode s p).2, (p : Int), wrong, ((Utf8.decode s p).1 : Int)) w ⟨h, by rw [← hck, chkL_go hp (by rw [hw]; exact c11), if_neg (show ¬badR _ by unfold badR; omega), hw], by omega, by omega⟩ (by have := decode_pos s p; simp only []; omega))

theorem na_parts {O : World} {s : ByteArray} {w : World} {R : List Hp} (hsz : s.size < 4294967281) (h : Sat w ((mlR O) :: R)) :
    FnC Tryd.prog 97 [.string s] w fun v w' => ∃ a c, v = .slice a (List.length (α := ByteArray) (partsS s)) c ∧ (partsS s).length ≤ c ∧ c ≤ 9223372036854775807 ∧ Sat w' (OwnS 9 1 (.slice a (partsS s).length c) (scells (partsS s)) :: (mlR O) :: R) := by
  refine fnC_of_run Tryd.func97 rfl Tryd.ntmps97 (Nat.le_of_ble_eq_true rfl) (fun cs => ?_)
  refine run_seq (run_region_lit ?_)
  refine o_rd (rd_assign rfl) trivial rfl ?_
  refine runO_nil (run_seq (run_seq (run_region_lit ?_)))
  refine o_rd (rd_move rfl) trivial rfl ?_
  refine o_tD (rd_eqlS rfl rfl) trivial rfl (fun c1 => ?_) (fun c1 => ?_)
  · refine runO_nil (run_cond_true rfl (run_seq (run_region_lit ?_)))
    refine o_rd (rd_assign rfl) trivial rfl ?_
    refine runO_nil ?_
    refine run_ret Tryd.func97 (RV.tmp rfl RV.nil) ?_
    -- ret 0 path c1t. L ['ml']
    rw [show partsS s = [] by unfold partsS; exact if_pos c1]
    exact ⟨none, 0, rfl, Nat.le_refl _, by omega, Sat.lone (own_none none) h⟩
  · refine runO_nil (run_cond_false rfl (run_skip (run_seq (run_region_lit ?_))))
    refine o_rd (rd_move rfl) trivial rfl ?_
    refine o_ef trivial (ef_call (Tryd.call108) rfl rfl ?_)
    refine FnC.mono (split_ok hsz h) ?_
    rintro _ w ⟨b, rfl, h⟩
    refine o_rd (rd_assign rfl) trivial rfl ?_
    refine runO_nil ?_
    refine run_ret Tryd.func97 (RV.tmp rfl RV.nil) ?_
    -- ret 1 path c1f. L ['o', 'ml']
    obtain ⟨a9, n9, c9, e9, hl9, hc9, hm9, _⟩ := Sat.ownRow 0 h rfl
    rw [scells_len] at hl9
    have hp : Lib.splitB stroke 0 (Lib.countB s stroke) s = partsS s := by unfold partsS; exact (if_neg c1).symm
    rw [hp] at h hl9
    injection e9 with e1 e2 e3
    have e4 : Lib.countB s stroke + 1 = (partsS s).length := by omega
    rw [e4] at h ⊢
    exact ⟨_, _, rfl, Nat.le_refl _, by omega, h⟩

theorem na_Path {O : World} {s : ByteArray} {w : World} {R : List Hp} (h : Sat w ((mlR O) :: R)) :
    FnC Tryd.prog 85 [.string s] w fun v w' => v = .agg #[.int .i64 (pathE s).1, .int .i64 (pathE s).2] ∧ Sat w' ((mlR O) :: R) := by
  refine fnC_of_run Tryd.func85 rfl Tryd.ntmps85 (Nat.le_of_ble_eq_true rfl) (fun cs => ?_)
  refine run_seq (run_region_lit ?_)
  refine o_ef trivial (ef_alloc S126 rfl h (fun rb w h => ?_))
  replace h := Sat.conv (B := pt rb (.cells #[.int .i64 0, .int .i64 0] 126)) 0 h rfl (fun _ x => x)
  refine runO_nil (run_scope (run_seq (run_seq (run_region_lit ?_))))
  refine o_rd (rd_move rfl) trivial rfl ?_
  refine o_rd (rd_lenS T9 rfl) trivial rfl ?_
  refine o_tD (rd_gtr rfl rfl) trivial rfl (fun c1 => ?_) (fun c1 => ?_)
  · refine runO_nil (run_cond_true rfl (run_seq (run_region_lit ?_)))
    refine o_rd (Reads.to (v' := .agg #[.int .i64 3, .int .i64 200]) (rd_build B126 rfl rfl) rfl) trivial rfl ?_
    refine o_ef trivial (ef_store S126 0 rfl rfl h rfl rfl rfl (Nat.le_of_ble_eq_true rfl) rfl (fun w h => ?_))
    replace h := Sat.conv (B := pt rb (.cells #[.int .i64 3, .int .i64 200] 126)) 0 h rfl (fun _ x => x)
    refine runO_nil ?_
    refine run_ret Tryd.func85 (RV.cell rfl (run_loadG G126 (h.at_ 0 rfl) rfl) RV.nil) ?_
    -- ret 0 path c1t. L ['rb', 'ml']
    rw [show pathE s = (3, 200) by unfold pathE; exact if_pos (by omega)]
    exact ⟨rfl, (Sat.out 0 h)⟩
  · refine runO_nil (run_cond_false rfl (run_skip (run_seq (run_region_lit ?_))))
    refine o_rd (rd_assign rfl) trivial rfl ?_
    refine runO_nil (run_seq (run_label (run_seq (run_seq (run_region_lit ?_)))))
    refine o_rd (rd_move rfl) trivial rfl ?_
    refine o_ef trivial (ef_call (Tryd.call97) rfl rfl ?_)
    refine FnC.mono (na_parts (s := s) (by omega) (Sat.bring 1 h)) ?_
    rintro _ w ⟨a2, c2, rfl, hlc, hcm, h⟩
    refine o_rd (rd_len (u := 0) T77 rfl) trivial rfl ?_
    refine o_rd (rd_move rfl) trivial rfl ?_
    refine runO_nil (run_block ?_)
    refine run_loop (σ := Nat × Int) (fun (i, at_) => [(2, .pointer (some ⟨rb, 0, none⟩)), (3, .int .i64 at_), (12, .slice a2 (partsS s).length c2), (13, .int .i64 (partsS s).length), (14, .int .i64 (i : Nat))]) (fun (i, at_) w => Sat w (OwnS 9 1 (.slice a2 (partsS s).length c2) (scells (partsS s)) :: pt rb (.cells #[.int .i64 0, .int .i64 0] 126) :: (mlR O) :: R) ∧ i ≤ (partsS s).length ∧ i ≤ 16 ∧ 0 ≤ at_ ∧ at_ ≤ i * 1000 ∧ pthL i at_ ((partsS s).drop i) = pthL 0 0 (partsS s)) (fun (i, at_) => (partsS s).length - i) (0, 0) ?_ (sub_cons rfl (sub_cons rfl (sub_cons rfl (sub_cons rfl (sub_cons rfl (sub_nil _)))))) ?_
    · exact ⟨(Sat.bring 2 (Sat.bring 2 (Sat.bring 1 h))), by omega, by omega, by omega, by omega, rfl⟩
    clear h
    rintro ⟨i, at_⟩ w ⟨h, hi, hi2, ha1, ha2, hp⟩ ih
    refine run_seq (run_region_lit ?_)
    refine o_tD (rd_lss rfl rfl) trivial rfl (fun c2 => ?_) (fun c2 => ?_)
    · refine runO_nil (run_seq (run_cond_true rfl (run_skip (run_seq (run_block (run_seq ?_))))))
      obtain ⟨n, hn⟩ : ∃ n, (partsS s)[i]? = some n := ⟨_, List.getElem?_eq_getElem (by omega)⟩
      have hns := partsS_size (List.mem_of_getElem? hn)
      obtain ⟨a3, n3, c3, e3, _, _, _, hrow⟩ := Sat.ownRow 0 h rfl
      cases e3
      obtain ⟨bb, oo, C, E, fr, rfl, hb, hcell⟩ := RowW.get hrow (scells_get hn)
      refine run_region_lit ?_
      refine o_rd (rd_move rfl) trivial rfl ?_
      refine o_rd (Reads.to (v' := .pointer (some ⟨bb, oo + i, none⟩)) (rd_idx T77 S9 rfl rfl (by omega) (by omega)) (by simp)) trivial rfl ?_
      refine o_ld rfl hb T9 rfl (hcell _ _ (scells_get hn)) trivial rfl ?_
      refine o_rd (rd_assign rfl) trivial rfl ?_
      refine o_rd (rd_assign rfl) trivial rfl ?_
      refine runO_nil (run_seq (run_seq (run_region_lit ?_)))
      refine o_rd (rd_move rfl) trivial rfl ?_
      refine o_tD (rd_eql rfl rfl) trivial rfl (fun c3 => ?_) (fun c3 => ?_)
      · refine runO_nil (run_cond_true rfl (run_seq (run_region_lit ?_)))
        refine o_rd (rd_move rfl) trivial rfl ?_
        refine o_rd (Reads.to (v' := .agg #[.int .i64 3, .int .i64 at_]) (rd_build B126 rfl rfl) rfl) trivial rfl ?_
        refine o_ef trivial (ef_store S126 1 rfl rfl h rfl rfl rfl (Nat.le_of_ble_eq_true rfl) rfl (fun w h => ?_))
        replace h := Sat.conv (B := pt rb (.cells #[.int .i64 3, .int .i64 at_] 126)) 1 h rfl (fun _ x => x)
        refine runO_nil ?_
        refine run_ret Tryd.func85 (RV.cell rfl (run_loadG G126 (h.at_ 1 rfl) rfl) RV.nil) ?_
        -- ret 1 path c1f.L0.c2t.c3t. L ['o', 'rb', 'ml']
        rw [show pathE s = (3, at_) by unfold pathE; rw [if_neg (by omega), ← hp, drop_cons hn]; simp only [pthL]; exact if_pos (by omega)]
        exact ⟨rfl, (Sat.out 0 (Sat.out 1 h))⟩
      · refine runO_nil (run_cond_false rfl (run_skip (run_seq (run_seq (run_region_lit ?_)))))
        refine o_rd (rd_move rfl) trivial rfl ?_
        refine o_ef trivial (ef_call (Tryd.call98) rfl rfl ?_)
        refine FnC.mono (na_Check (by omega) h) ?_
        rintro _ w ⟨rfl, h⟩
        refine o_ef trivial (ef_alloc S126 rfl h (fun sb w h => ?_))
        refine o_ef trivial (ef_store S126 0 rfl rfl h rfl rfl rfl (Nat.le_of_ble_eq_true rfl) rfl (fun w h => ?_))
        replace h := Sat.conv (B := pt sb (.cells #[.int .i64 (chk n).1, .int .i64 (chk n).2] 126)) 0 h rfl (fun _ x => x)
        refine runO_nil (run_seq (run_region_lit ?_))
        refine o_rd (rd_fieldA F126_0 S40 rfl) trivial rfl ?_
        refine o_ld rfl (h.at_ 0 rfl) T40 rfl rfl trivial rfl ?_
        refine o_tN (rd_neq rfl rfl) trivial rfl (fun c4 => ?_) (fun c4 => ?_)
        · refine runO_nil (run_cond_true rfl (run_seq (run_region_lit ?_)))
          refine o_rd (rd_fieldA F126_0 S40 rfl) trivial rfl ?_
          refine o_ld rfl (h.at_ 0 rfl) T40 rfl rfl trivial rfl ?_
          refine o_rd (rd_move rfl) trivial rfl ?_
          refine o_rd (rd_fieldA F126_1 S3 rfl) trivial rfl ?_
          refine o_ld rfl (h.at_ 0 rfl) T3 rfl rfl trivial rfl ?_
          refine o_rd (rd_add rfl rfl) trivial rfl ?_
          refine o_rd (Reads.to (v' := .agg #[.int .i64 (chk n).1, .int .i64 (IntKind.i64.wrap (at_ + (chk n).2))]) (rd_build B126 rfl rfl) rfl) trivial rfl ?_
          refine o_ef trivial (ef_store S126 2 rfl rfl h rfl rfl rfl (Nat.le_of_ble_eq_true rfl) rfl (fun w h => ?_))
          replace h := Sat.conv (B := pt rb (.cells #[.int .i64 (chk n).1, .int .i64 (IntKind.i64.wrap (at_ + (chk n).2))] 126)) 2 h rfl (fun _ x => x)
          refine runO_nil ?_
          refine run_ret Tryd.func85 (RV.cell rfl (run_loadG G126 (h.at_ 2 rfl) rfl) RV.nil) ?_
          -- ret 2 path c1f.L0.c2t.c3f.c4t. L ['sb', 'o', 'rb', 'ml']
          rw [show pathE s = ((chk n).1, IntKind.i64.wrap (at_ + (chk n).2)) by unfold pathE; rw [if_neg (by omega), ← hp, drop_cons hn]; simp only [pthL]; rw [if_neg (show ¬i = 16 by omega), if_neg c4]]
          exact ⟨rfl, (Sat.out 0 (Sat.out 1 (Sat.out 2 h)))⟩
        · refine runO_nil (run_cond_false rfl (run_skip (run_seq (run_region_lit ?_))))
          refine o_rd (rd_move rfl) trivial rfl ?_
          refine o_rd (rd_move rfl) trivial rfl ?_
          refine o_rd (rd_lenS T9 rfl) trivial rfl ?_
          refine o_rd (rd_addi rfl rfl (by constructor <;> omega)) trivial rfl ?_
          refine o_rd (rd_addi rfl rfl (by constructor <;> omega)) trivial rfl ?_
          refine o_rd (rd_assign rfl) trivial rfl ?_
          refine runO_nil (run_exit rfl (run_region_lit ?_))
          refine o_rd (rd_addi rfl rfl (by constructor <;> omega)) trivial rfl ?_
          refine o_rd (rd_move rfl) trivial rfl ?_
          refine runO_nil ?_
          -- round of loop 0 path c1f.L0.c2t.c3f.c4f. L ['sb', 'o', 'rb', 'ml']
          exact run_fewer (sub_cons rfl (sub_cons rfl (sub_cons rfl (sub_cons rfl (sub_cons rfl (sub_nil _)))))) (ih (i + 1, at_ + (n.size + 1)) w ⟨(Sat.out 0 h), by omega, by omega, by omega, by omega, by rw [← hp, drop_cons hn]; simp only [pthL]; rw [if_neg (show ¬i = 16 by omega), if_pos c4]⟩ (by simp only []; omega))
    · refine runO_nil (run_seq (run_cond_false rfl (run_exit rfl (run_seq (run_region_lit ?_)))))
      refine o_rd (Reads.to (v' := .agg #[.int .i64 0, .int .i64 0]) (rd_build B126 rfl rfl) rfl) trivial rfl ?_
      refine o_ef trivial (ef_store S126 1 rfl rfl h rfl rfl rfl (Nat.le_of_ble_eq_true rfl) rfl (fun w h => ?_))
      replace h := Sat.conv (B := pt rb (.cells #[.int .i64 0, .int .i64 0] 126)) 1 h rfl (fun _ x => x)
      refine runO_nil ?_
      refine run_ret Tryd.func85 (RV.cell rfl (run_loadG G126 (h.at_ 1 rfl) rfl) RV.nil) ?_
      -- ret 3 path c1f.L0.c2f. L ['o', 'rb', 'ml']
      rw [show pathE s = (0, 0) by unfold pathE; rw [if_neg (by omega), ← hp, List.drop_eq_nil_of_le (by omega)]; rfl]
      exact ⟨rfl, (Sat.out 0 (Sat.out 1 h))⟩

theorem rs_may {O : World} {s : ByteArray} {w : World} {R : List Hp} (h : Sat w ((mlR O) :: R)) :
    FnC Tryd.prog 48 [.string s] w fun v w' => v = .int .i64 (mayE s) ∧ Sat w' ((mlR O) :: R) := by
  refine fnC_of_run Tryd.func48 rfl Tryd.ntmps48 (Nat.le_of_ble_eq_true rfl) (fun cs => ?_)
  refine run_seq (run_region_lit ?_)
  refine o_rd (rd_assign rfl) trivial rfl ?_
  refine runO_nil (run_seq (run_seq (run_region_lit ?_)))
  refine o_rd (rd_move rfl) trivial rfl ?_
  refine o_ef trivial (ef_call (Tryd.call85) rfl rfl ?_)
  refine FnC.mono (na_Path h) ?_
  rintro _ w ⟨rfl, h⟩
  refine o_ef trivial (ef_alloc S126 rfl h (fun sb w h => ?_))
  refine o_ef trivial (ef_store S126 0 rfl rfl h rfl rfl rfl (Nat.le_of_ble_eq_true rfl) rfl (fun w h => ?_))
  replace h := Sat.conv (B := pt sb (.cells #[.int .i64 (pathE s).1, .int .i64 (pathE s).2] 126)) 0 h rfl (fun _ x => x)
  refine runO_nil (run_block (run_seq (run_region_lit ?_)))
  refine o_rd (rd_fieldA F126_0 S40 rfl) trivial rfl ?_
  refine o_ld rfl (h.at_ 0 rfl) T40 rfl rfl trivial rfl ?_
  refine o_tN (rd_neq rfl rfl) trivial rfl (fun c1 => ?_) (fun c1 => ?_)
  · refine o_rd (rd_assign rfl) trivial rfl ?_
    refine runO_nil (run_cond_true rfl (run_seq (run_region_lit ?_)))
    refine o_rd (rd_fieldA F126_0 S40 rfl) trivial rfl ?_
    refine o_ld rfl (h.at_ 0 rfl) T40 rfl rfl trivial rfl ?_
    refine o_rd (rd_assign rfl) trivial rfl ?_
    refine runO_nil ?_
    refine run_ret Tryd.func48 (RV.tmp rfl RV.nil) ?_
    -- ret 0 path c1t. L ['sb', 'ml']
    rw [show mayE s = (pathE s).1 by unfold mayE; exact if_neg c1]
    exact ⟨rfl, (Sat.out 0 h)⟩
  · refine o_rd (rd_assign rfl) trivial rfl ?_
    refine runO_nil (run_cond_false rfl (run_seq (run_region_lit ?_)))
    refine o_rd (rd_move rfl) trivial rfl ?_
    refine o_tD (rd_eqlS rfl rfl) trivial rfl (fun c2 => ?_) (fun c2 => ?_)
    · refine o_rd (rd_assign rfl) trivial rfl ?_
      refine runO_nil (run_cond_true rfl (run_seq (run_region_lit ?_)))
      refine o_rd (rd_assign rfl) trivial rfl ?_
      refine runO_nil ?_
      refine run_ret Tryd.func48 (RV.tmp rfl RV.nil) ?_
      -- ret 1 path c1f.c2t. L ['sb', 'ml']
      rw [show mayE s = 2 by unfold mayE; rw [if_pos c1]; exact if_pos c2]
      exact ⟨rfl, (Sat.out 0 h)⟩
    · refine o_rd (rd_assign rfl) trivial rfl ?_
      refine runO_nil (run_cond_false rfl (run_skip (run_inBlock (run_seq (run_region_lit ?_)))))
      refine o_rd (rd_assign rfl) trivial rfl ?_
      refine runO_nil ?_
      refine run_ret Tryd.func48 (RV.tmp rfl RV.nil) ?_
      -- ret 2 path c1f.c2f. L ['sb', 'ml']
      rw [show mayE s = 0 by unfold mayE; rw [if_pos c1]; exact if_neg c2]
      exact ⟨rfl, (Sat.out 0 h)⟩

end Go.Proofs.YtmhpgdpegneejaaDoor
