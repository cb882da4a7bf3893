import Derived.Test.YtmhpgdpegneejaaDoorOc0
import Derived.Test.YtmhpgdpegneejaaDoorDk1
set_option maxRecDepth 100000
set_option linter.unusedVariables false
set_option linter.unusedSimpArgs false
namespace Go.Proofs.YtmhpgdpegneejaaDoor
open Go Go.Proofs Go.Proofs.Slx
theorem oc_Read {B : Hp} {a : Option Addr} {cap : Nat} {bs : List UInt8} {w : World} {R : List Hp} (hB : ∀ g, B g → RowH g a (bcells bs)) (hbd : bs.length ≤ 140737488355328) (h : Sat w (B :: R)) :
    FnC Tryd.prog 73 [.slice a bs.length cap] w fun v w' => ∃ b, v = .pointer (some ⟨b, 0, none⟩) ∧ Sat w' (rdrR b bs 0 :: B :: R) := by
  refine fnC_of_run Tryd.func73 rfl Tryd.ntmps73 (Nat.le_of_ble_eq_true rfl) (fun cs => ?_)
  refine run_seq (run_region_lit ?_)
  refine o_rd (rd_assign rfl) trivial rfl ?_
  refine runO_nil (run_seq (run_region_lit ?_))
  refine o_rd (rd_move rfl) trivial rfl ?_
  refine o_ef trivial (ef_call (Tryd.call30) rfl rfl ?_)
  refine FnC.mono (clone_bytes hB (by omega) h) ?_
  rintro _ w ⟨a2, n2, c2, rfl, h⟩
  obtain ⟨hn2, hc2, hm2⟩ := own_len 0 h rfl
  subst hn2
  refine o_rd (Reads.to (v' := .agg #[.bool true, .slice a2 bs.length c2, .int .i64 0]) (rd_build B132 rfl rfl) rfl) trivial rfl ?_
  refine o_rd (Reads.to (v' := .agg #[.bool true, .slice a2 bs.length c2, .int .i64 0]) (rd_build B134 rfl rfl) rfl) trivial rfl ?_
  refine o_ef trivial (ef_box rfl rfl h (fun bx w h => ?_))
  replace h := Sat.conv (B := pt bx (.cells #[.bool true, .slice a2 bs.length c2, .int .i64 0] 134)) 0 h rfl (fun _ x => x)
  refine o_rd (rd_assign rfl) trivial rfl ?_
  refine runO_nil ?_
  refine run_ret Tryd.func73 (RV.tmp rfl RV.nil) ?_
  -- ret 0 path  L ['bx', 'o', 'B']
  exact ⟨bx, rfl, rdrR_close hc2 hm2 hbd (Sat.conv (B := rowR a2 (bcells bs)) 1 h rfl own_rowR)⟩

theorem oc_ready {b : Nat} {s : Value} {e : Int} {w : World} {R : List Hp} (h : Sat w (pt b (.cells #[.bool true, s, .int .i64 e] 134) :: R)) :
    FnC Tryd.prog 93 [.pointer (some ⟨b, 0, none⟩)] w fun v w' => v = .bool (decide (e = 0)) ∧ Sat w' (pt b (.cells #[.bool true, s, .int .i64 e] 134) :: R) := by
  refine fnC_of_run Tryd.func93 rfl Tryd.ntmps93 (Nat.le_of_ble_eq_true rfl) (fun cs => ?_)
  refine run_seq (run_region_lit ?_)
  refine o_rd (rd_assign rfl) trivial rfl ?_
  refine runO_nil (run_seq (run_region_lit ?_))
  refine o_rd (rd_move rfl) trivial rfl ?_
  refine o_rd (rd_nil rfl) trivial rfl ?_
  refine o_rd (rd_fieldA F132_0 S4 rfl) trivial rfl ?_
  refine o_ld rfl (h.at_ 0 rfl) T4 rfl rfl trivial rfl ?_
  refine o_rd (rd_move rfl) trivial rfl ?_
  refine o_rd (rd_move rfl) rfl rfl ?_
  refine o_rd (rd_nil rfl) rfl rfl ?_
  refine o_rd (rd_fieldA F132_2 S40 rfl) rfl rfl ?_
  refine o_ld rfl (h.at_ 0 rfl) T40 rfl rfl rfl rfl ?_
  refine o_rd (rd_eql rfl rfl) rfl rfl ?_
  refine o_rd (rd_pick_t rfl rfl) trivial rfl ?_
  refine o_rd (rd_assign rfl) trivial rfl ?_
  refine runO_nil ?_
  refine run_ret Tryd.func93 (RV.tmp rfl RV.nil) ?_
  -- ret 0 path  L ['b']
  exact ⟨rfl, h⟩

theorem oc_refuse {b : Nat} {s : Value} {e e2 : Int} {w : World} {R : List Hp} (h : Sat w (pt b (.cells #[.bool true, s, .int .i64 e] 134) :: R)) :
    FnC Tryd.prog 94 [.pointer (some ⟨b, 0, none⟩), .int .i64 e2] w fun v w' => Sat w' (pt b (.cells #[.bool true, s, .int .i64 e2] 134) :: R) := by
  refine fnC_of_run Tryd.func94 rfl Tryd.ntmps94 (Nat.le_of_ble_eq_true rfl) (fun cs => ?_)
  refine run_region_lit ?_
  refine o_rd (rd_move rfl) trivial rfl ?_
  refine o_rd (rd_move rfl) trivial rfl ?_
  refine o_rd (rd_nil rfl) trivial rfl ?_
  refine o_rd (rd_fieldA F132_2 S40 rfl) trivial rfl ?_
  refine o_ef trivial (ef_store S40 0 rfl rfl h rfl rfl rfl (Nat.le_of_ble_eq_true rfl) rfl (fun w h => ?_))
  refine runO_nil ?_
  refine run_end Tryd.func94 RV.nil ?_
  -- ret 0 path  L ['b']
  exact h

theorem oc_take {b : Nat} {a : Option Addr} {l c n : Nat} {e : Int} {w : World} {R : List Hp} (hn : n ≤ l) (hl : l ≤ c) (hc : c ≤ 9223372036854775807) (h : Sat w (pt b (.cells #[.bool true, .slice a l c, .int .i64 e] 134) :: R)) :
    FnC Tryd.prog 96 [.pointer (some ⟨b, 0, none⟩), .int .i64 n] w fun v w' => v = .slice a n n ∧ Sat w' (pt b (.cells #[.bool true, .slice (adv a n 1 c) (l - n) (c - n), .int .i64 e] 134) :: R) := by
  refine fnC_of_run Tryd.func96 rfl Tryd.ntmps96 (Nat.le_of_ble_eq_true rfl) (fun cs => ?_)
  refine run_seq (run_region_lit ?_)
  refine o_rd (rd_assign rfl) trivial rfl ?_
  refine runO_nil (run_seq (run_region_lit ?_))
  refine o_rd (rd_move rfl) trivial rfl ?_
  refine o_rd (rd_nil rfl) trivial rfl ?_
  refine o_rd (rd_fieldA F132_1 S32 rfl) trivial rfl ?_
  refine o_ld rfl (h.at_ 0 rfl) T32 rfl rfl trivial rfl ?_
  refine o_rd (rd_move rfl) trivial rfl ?_
  refine o_rd (rd_move rfl) trivial rfl ?_
  refine o_rd (Reads.to (v' := .slice a n n) (rd_slice3 T32 S5 rfl rfl rfl (by omega) (by omega) (by omega)) (by simp)) trivial rfl ?_
  refine o_rd (rd_assign rfl) trivial rfl ?_
  refine runO_nil (run_seq (run_region_lit ?_))
  refine o_rd (rd_move rfl) trivial rfl ?_
  refine o_rd (rd_move rfl) trivial rfl ?_
  refine o_rd (rd_nil rfl) trivial rfl ?_
  refine o_rd (rd_fieldA F132_1 S32 rfl) trivial rfl ?_
  refine o_ld rfl (h.at_ 0 rfl) T32 rfl rfl trivial rfl ?_
  refine o_rd (rd_move rfl) trivial rfl ?_
  refine o_rd (Reads.to (v' := .slice (adv a n 1 c) (l - n) (c - n)) (rd_sliceL T32 S5 rfl rfl (by omega) (by omega)) (by simp)) trivial rfl ?_
  refine o_rd (rd_nil rfl) trivial rfl ?_
  refine o_rd (rd_fieldA F132_1 S32 rfl) trivial rfl ?_
  refine o_ef trivial (ef_store S32 0 rfl rfl h rfl rfl rfl (Nat.le_of_ble_eq_true rfl) rfl (fun w h => ?_))
  replace h := Sat.conv (B := pt b (.cells #[.bool true, .slice (adv a n 1 c) (l - n) (c - n), .int .i64 e] 134)) 0 h rfl (fun _ x => x)
  refine runO_nil (run_seq (run_region_lit ?_))
  refine o_rd (rd_move rfl) trivial rfl ?_
  refine o_rd (rd_assign rfl) trivial rfl ?_
  refine runO_nil ?_
  refine run_ret Tryd.func96 (RV.tmp rfl RV.nil) ?_
  -- ret 0 path  L ['b']
  exact ⟨rfl, h⟩

theorem oc_Left {b : Nat} {bs : List UInt8} {e : Int} {w : World} {R : List Hp} (h : Sat w (rdrR b bs e :: R)) :
    FnC Tryd.prog 74 [.pointer (some ⟨b, 0, none⟩)] w fun v w' => v = .int .i64 bs.length ∧ Sat w' (rdrR b bs e :: R) := by
  obtain ⟨a, c, k1, k2, k3, h⟩ := rdrR_open h
  refine fnC_of_run Tryd.func74 rfl Tryd.ntmps74 (Nat.le_of_ble_eq_true rfl) (fun cs => ?_)
  refine run_seq (run_region_lit ?_)
  refine o_rd (rd_assign rfl) trivial rfl ?_
  refine runO_nil (run_seq (run_seq (run_region_lit ?_)))
  refine o_rd (rd_move rfl) trivial rfl ?_
  refine o_rd (rd_eqlP0 T118 rfl rfl) trivial rfl ?_
  refine runO_nil (run_cond_false rfl (run_skip (run_seq (run_region_lit ?_))))
  refine o_rd (rd_move rfl) trivial rfl ?_
  refine o_rd (rd_nil rfl) trivial rfl ?_
  refine o_rd (rd_fieldA F134_0 S132 rfl) trivial rfl ?_
  refine o_rd (rd_fieldA F132_1 S32 rfl) trivial rfl ?_
  refine o_ld rfl (h.at_ 0 rfl) T32 rfl rfl trivial rfl ?_
  refine o_rd (rd_len (u := 0) T32 rfl) trivial rfl ?_
  refine o_rd (rd_assign rfl) trivial rfl ?_
  refine runO_nil ?_
  refine run_ret Tryd.func74 (RV.tmp rfl RV.nil) ?_
  -- ret 0 path  L ['b', 'row']
  exact ⟨rfl, rdrR_close k1 k2 k3 h⟩

theorem oc_Err {b : Nat} {bs : List UInt8} {e : Int} {w : World} {R : List Hp} (h : Sat w (rdrR b bs e :: R)) :
    FnC Tryd.prog 77 [.pointer (some ⟨b, 0, none⟩)] w fun v w' => v = .int .i64 e ∧ Sat w' (rdrR b bs e :: R) := by
  obtain ⟨a, c, k1, k2, k3, h⟩ := rdrR_open h
  refine fnC_of_run Tryd.func77 rfl Tryd.ntmps77 (Nat.le_of_ble_eq_true rfl) (fun cs => ?_)
  refine run_seq (run_region_lit ?_)
  refine o_rd (rd_assign rfl) trivial rfl ?_
  refine runO_nil (run_seq (run_seq (run_region_lit ?_)))
  refine o_rd (rd_move rfl) trivial rfl ?_
  refine o_rd (rd_eqlP0 T118 rfl rfl) trivial rfl ?_
  refine runO_nil (run_cond_false rfl (run_skip (run_seq (run_region_lit ?_))))
  refine o_rd (rd_move rfl) trivial rfl ?_
  refine o_rd (rd_nil rfl) trivial rfl ?_
  refine o_rd (rd_fieldA F134_0 S132 rfl) trivial rfl ?_
  refine o_rd (rd_fieldA F132_2 S40 rfl) trivial rfl ?_
  refine o_ld rfl (h.at_ 0 rfl) T40 rfl rfl trivial rfl ?_
  refine o_rd (rd_assign rfl) trivial rfl ?_
  refine runO_nil ?_
  refine run_ret Tryd.func77 (RV.tmp rfl RV.nil) ?_
  -- ret 0 path  L ['b', 'row']
  exact ⟨rfl, rdrR_close k1 k2 k3 h⟩

theorem oc_End {b : Nat} {bs : List UInt8} {e : Int} {w : World} {R : List Hp} (h : Sat w (rdrR b bs e :: R)) :
    FnC Tryd.prog 84 [.pointer (some ⟨b, 0, none⟩)] w fun v w' => v = .int .i64 (rEnd bs e) ∧ Sat w' (rdrR b bs e :: R) := by
  obtain ⟨a, c, k1, k2, k3, h⟩ := rdrR_open h
  refine fnC_of_run Tryd.func84 rfl Tryd.ntmps84 (Nat.le_of_ble_eq_true rfl) (fun cs => ?_)
  refine run_seq (run_region_lit ?_)
  refine o_rd (rd_assign rfl) trivial rfl ?_
  refine runO_nil (run_seq (run_block (run_seq (run_region_lit ?_))))
  refine o_rd (rd_move rfl) trivial rfl ?_
  refine o_rd (rd_eqlP0 T118 rfl rfl) trivial rfl ?_
  refine o_rd (rd_assign rfl) trivial rfl ?_
  refine runO_nil (run_cond_false rfl (run_seq (run_region_lit ?_)))
  refine o_rd (rd_move rfl) trivial rfl ?_
  refine o_rd (rd_nil rfl) trivial rfl ?_
  refine o_rd (rd_fieldA F134_0 S132 rfl) trivial rfl ?_
  refine o_rd (rd_fieldA F132_2 S40 rfl) trivial rfl ?_
  refine o_ld rfl (h.at_ 0 rfl) T40 rfl rfl trivial rfl ?_
  refine o_tN (rd_neq rfl rfl) trivial rfl (fun c1 => ?_) (fun c1 => ?_)
  · refine o_rd (rd_assign rfl) trivial rfl ?_
    refine runO_nil (run_cond_true rfl (run_seq (run_region_lit ?_)))
    refine o_rd (rd_move rfl) trivial rfl ?_
    refine o_rd (rd_nil rfl) trivial rfl ?_
    refine o_rd (rd_fieldA F134_0 S132 rfl) trivial rfl ?_
    refine o_rd (rd_fieldA F132_2 S40 rfl) trivial rfl ?_
    refine o_ld rfl (h.at_ 0 rfl) T40 rfl rfl trivial rfl ?_
    refine o_rd (rd_assign rfl) trivial rfl ?_
    refine runO_nil ?_
    refine run_ret Tryd.func84 (RV.tmp rfl RV.nil) ?_
    -- ret 0 path c1t. L ['b', 'row']
    have ee : rEnd bs e = e := by simp [rEnd, c1]
    rw [ee]
    exact ⟨rfl, rdrR_close k1 k2 k3 h⟩
  · refine o_rd (rd_assign rfl) trivial rfl ?_
    refine runO_nil (run_cond_false rfl (run_seq (run_region_lit ?_)))
    refine o_rd (rd_move rfl) trivial rfl ?_
    refine o_rd (rd_nil rfl) trivial rfl ?_
    refine o_rd (rd_fieldA F134_0 S132 rfl) trivial rfl ?_
    refine o_rd (rd_fieldA F132_1 S32 rfl) trivial rfl ?_
    refine o_ld rfl (h.at_ 0 rfl) T32 rfl rfl trivial rfl ?_
    refine o_rd (rd_len (u := 0) T32 rfl) trivial rfl ?_
    refine o_tD (rd_gtr rfl rfl) trivial rfl (fun c2 => ?_) (fun c2 => ?_)
    · refine o_rd (rd_assign rfl) trivial rfl ?_
      refine runO_nil (run_cond_true rfl (run_seq (run_region_lit ?_)))
      refine o_rd (rd_assign rfl) trivial rfl ?_
      refine runO_nil ?_
      refine run_ret Tryd.func84 (RV.tmp rfl RV.nil) ?_
      -- ret 1 path c1f.c2t. L ['b', 'row']
      have ee : rEnd bs e = 111 := by simp only [rEnd, if_pos c1, if_neg (show bs.length ≠ 0 by omega)]
      rw [ee]
      exact ⟨rfl, rdrR_close k1 k2 k3 h⟩
    · refine o_rd (rd_assign rfl) trivial rfl ?_
      refine runO_nil (run_cond_false rfl (run_skip (run_inBlock (run_seq (run_region_lit ?_)))))
      refine o_rd (rd_assign rfl) trivial rfl ?_
      refine runO_nil ?_
      refine run_ret Tryd.func84 (RV.tmp rfl RV.nil) ?_
      -- ret 2 path c1f.c2f. L ['b', 'row']
      have ee : rEnd bs e = 0 := by simp only [rEnd, if_pos c1, if_pos (show bs.length = 0 by omega)]
      rw [ee]
      exact ⟨rfl, rdrR_close k1 k2 k3 h⟩

theorem oc_number {a : Option Addr} {cap : Nat} {bs : List UInt8} {w0 : World} (hr : RowW w0 a (bcells bs)) (hl : bs.length ≤ 140737488355328)  :
    FnC Tryd.prog 95 [.slice a bs.length cap] w0 fun v w' => v = .tuple #[.int .u64 (num bs).1, .int .i64 (num bs).2.1, .int .i64 (num bs).2.2] ∧ w' = w0 := by
  refine fnC_of_run Tryd.func95 rfl Tryd.ntmps95 (Nat.le_of_ble_eq_true rfl) (fun cs => ?_)
  refine run_seq (run_region_lit ?_)
  refine o_rd (rd_assign rfl) trivial rfl ?_
  refine o_rd (rd_assign rfl) trivial rfl ?_
  refine o_rd (rd_assign rfl) trivial rfl ?_
  refine runO_nil (run_seq (run_region_lit ?_))
  refine o_rd (rd_assign rfl) trivial rfl ?_
  refine runO_nil (run_seq (run_seq (run_region_lit ?_)))
  refine o_rd (rd_move rfl) trivial rfl ?_
  refine o_rd (rd_len (u := 0) T32 rfl) trivial rfl ?_
  refine o_rd (rd_move rfl) trivial rfl ?_
  refine runO_nil (run_block ?_)
  refine run_loop (σ := Nat × Nat) (fun (i, x) => [(5, .int .u64 (x : Nat)), (8, .slice a bs.length cap), (9, .int .i64 bs.length), (10, .int .i64 (i : Nat))]) (fun (i, x) w => w = w0 ∧ i ≤ bs.length ∧ i ≤ 9 ∧ x < 18446744073709551616 ∧ numL i x (bs.drop i) = num bs) (fun (i, x) => bs.length - i) (0, 0) ?_ (sub_cons rfl (sub_cons rfl (sub_cons rfl (sub_cons rfl (sub_nil _))))) ?_
  · exact ⟨rfl, Nat.zero_le _, Nat.zero_le _, by omega, rfl⟩
  rintro ⟨i, x⟩ w ⟨h1, hi, h9, hx, hnum⟩ ih
  refine run_seq (run_region_lit ?_)
  refine o_tD (rd_lss rfl rfl) trivial rfl (fun c1 => ?_) (fun c1 => ?_)
  · refine runO_nil (run_seq (run_cond_true rfl (run_skip (run_seq (run_block (run_seq ?_))))))
    obtain ⟨c, hc⟩ : ∃ c, bs[i]? = some c := ⟨_, List.getElem?_eq_getElem (by omega)⟩
    have h8 := u8lt c
    subst h1
    obtain ⟨bb, o, C, E, fr, rfl, hb, hcell⟩ := RowW.get hr (bcells_get hc)
    refine run_region_lit ?_
    refine o_rd (rd_move rfl) trivial rfl ?_
    refine o_rd (Reads.to (v' := .pointer (some ⟨bb, o + i, none⟩)) (rd_idx T32 S5 rfl rfl (by omega) (by omega)) (by simp)) trivial rfl ?_
    refine o_ld rfl hb T5 rfl (hcell _ _ (bcells_get hc)) trivial rfl ?_
    refine o_rd (rd_assign rfl) trivial rfl ?_
    refine o_rd (rd_assign rfl) trivial rfl ?_
    refine runO_nil (run_seq (run_seq (run_region_lit ?_)))
    refine o_rd (rd_move rfl) trivial rfl ?_
    refine o_tD (rd_eql rfl rfl) trivial rfl (fun c2 => ?_) (fun c2 => ?_)
    · refine o_rd (rd_move rfl) trivial rfl ?_
      refine o_rd (rd_move rfl) rfl rfl ?_
      refine o_tD (rd_gtr rfl rfl) rfl rfl (fun c3 => ?_) (fun c3 => ?_)
      · refine o_rd (rd_pick_t rfl rfl) trivial rfl ?_
        refine o_rd (rd_move rfl) trivial rfl ?_
        refine o_pass rfl rfl rfl rfl ?_
        refine o_pass rfl rfl rfl rfl ?_
        refine o_pass rfl rfl rfl rfl ?_
        refine o_pass rfl rfl rfl rfl ?_
        refine o_pass rfl rfl rfl rfl ?_
        refine o_pass rfl rfl rfl rfl ?_
        refine o_rd (rd_pick_t rfl rfl) trivial rfl ?_
        refine runO_nil (run_cond_true rfl (run_seq (run_region_lit ?_)))
        refine o_rd (rd_assign rfl) trivial rfl ?_
        refine o_rd (rd_assign rfl) trivial rfl ?_
        refine o_rd (rd_assign rfl) trivial rfl ?_
        refine runO_nil ?_
        refine run_ret Tryd.func95 (RV.tmp rfl (RV.tmp rfl (RV.tmp rfl RV.nil))) ?_
        -- ret 0 path L0.c1t.c2t.c3t. L []
        rw [← hnum]
        rw [numL_bad hc (by omega)]
        exact ⟨rfl, rfl⟩
      · refine o_rd (rd_pick_t rfl rfl) trivial rfl ?_
        refine o_rd (rd_move rfl) trivial rfl ?_
        refine o_rd (rd_move rfl) rfl rfl ?_
        refine o_tD (rd_gtr rfl rfl) rfl rfl (fun c4 => ?_) (fun c4 => ?_)
        · refine o_rd (rd_move rfl) rfl rfl ?_
          refine o_rd (rd_move rfl) rfl rfl ?_
          refine o_tD (rd_eql rfl rfl) rfl rfl (fun c5 => ?_) (fun c5 => ?_)
          · refine o_rd (rd_pick_t rfl rfl) rfl rfl ?_
            refine o_rd (rd_pick_f rfl rfl) trivial rfl ?_
            refine runO_nil (run_cond_true rfl (run_seq (run_region_lit ?_)))
            refine o_rd (rd_assign rfl) trivial rfl ?_
            refine o_rd (rd_assign rfl) trivial rfl ?_
            refine o_rd (rd_assign rfl) trivial rfl ?_
            refine runO_nil ?_
            refine run_ret Tryd.func95 (RV.tmp rfl (RV.tmp rfl (RV.tmp rfl RV.nil))) ?_
            -- ret 1 path L0.c1t.c2t.c3f.c4t.c5t. L []
            rw [← hnum]
            rw [numL_bad hc (by omega)]
            exact ⟨rfl, rfl⟩
          · refine o_rd (rd_pick_t rfl rfl) rfl rfl ?_
            refine o_rd (rd_pick_f rfl rfl) trivial rfl ?_
            refine runO_nil (run_cond_false rfl (run_skip (run_seq (run_region_lit ?_))))
            refine o_rd (rd_move rfl) trivial rfl ?_
            refine o_rd (rd_move rfl) trivial rfl ?_
            refine o_rd (Reads.to (v' := .int .u8 ((c.toNat &&& 127 : Nat) : Int)) (rd_and rfl rfl) (and8 (b := 127) (u8lt c) (by decide))) trivial rfl ?_
            refine o_rd (Reads.to (v' := .int .u64 ((c.toNat &&& 127 : Nat) : Int)) (rd_conv T5 T45 rfl) (conv8to64 (Nat.lt_of_le_of_lt Nat.and_le_left (u8lt c)))) trivial rfl ?_
            refine o_rd (rd_move rfl) trivial rfl ?_
            refine o_rd (rd_muli rfl rfl (by constructor <;> omega)) trivial rfl ?_
            refine o_rd (Reads.to (v' := .int .u64 (((c.toNat &&& 127) * 2 ^ (7 * i) % 18446744073709551616 : Nat) : Int)) (rd_shl rfl rfl (by omega)) (shl64 (by omega) (by omega))) trivial rfl ?_
            refine o_rd (Reads.to (v' := .int .u64 ((x ||| (c.toNat &&& 127) * 2 ^ (7 * i) % 18446744073709551616) : Nat)) (rd_or rfl rfl) (or64 hx (Nat.mod_lt _ (by omega)))) trivial rfl ?_
            refine o_rd (rd_assign rfl) trivial rfl ?_
            refine runO_nil (run_seq (run_region_lit ?_))
            refine o_rd (rd_move rfl) trivial rfl ?_
            refine o_tD (rd_lss rfl rfl) trivial rfl (fun c6 => ?_) (fun c6 => ?_)
            · refine runO_nil (run_cond_true rfl (run_seq (run_region_lit ?_)))
              refine o_rd (rd_move rfl) trivial rfl ?_
              refine o_rd (rd_move rfl) trivial rfl ?_
              refine o_rd (rd_addi rfl rfl (by constructor <;> omega)) trivial rfl ?_
              refine o_rd (rd_assign rfl) trivial rfl ?_
              refine o_rd (rd_assign rfl) trivial rfl ?_
              refine o_rd (rd_assign rfl) trivial rfl ?_
              refine runO_nil ?_
              refine run_ret Tryd.func95 (RV.tmp rfl (RV.tmp rfl (RV.tmp rfl RV.nil))) ?_
              -- ret 2 path L0.c1t.c2t.c3f.c4t.c5f.c6t. L []
              rw [← hnum]
              rw [numL_end hc (by omega) (by omega)]
              exact ⟨rfl, rfl⟩
            · refine runO_nil (run_cond_false rfl (run_skip (run_inBlock (run_region_lit ?_))))
              refine o_rd (rd_addi rfl rfl (by constructor <;> omega)) trivial rfl ?_
              refine o_rd (rd_move rfl) trivial rfl ?_
              refine runO_nil ?_
              -- round of loop 0 path L0.c1t.c2t.c3f.c4t.c5f.c6f. L []
              exact run_fewer (sub_cons rfl (sub_cons rfl (sub_cons rfl (sub_cons rfl (sub_nil _))))) (ih (i + 1, (x ||| (c.toNat &&& 127) * 2 ^ (7 * i) % 18446744073709551616)) w ⟨rfl, by omega, by omega, Nat.or_lt_two_pow (n := 64) hx (Nat.mod_lt _ (by omega)), by rw [← hnum]; exact (numL_go hc (by omega) (by omega)).symm⟩ (by simp only []; omega))
        · refine o_rd (rd_move rfl) rfl rfl ?_
          refine o_pass rfl rfl rfl rfl ?_
          refine o_pass rfl rfl rfl rfl ?_
          refine o_rd (rd_pick_f rfl rfl) rfl rfl ?_
          refine o_rd (rd_pick_f rfl rfl) trivial rfl ?_
          refine runO_nil (run_cond_false rfl (run_skip (run_seq (run_region_lit ?_))))
          refine o_rd (rd_move rfl) trivial rfl ?_
          refine o_rd (rd_move rfl) trivial rfl ?_
          refine o_rd (Reads.to (v' := .int .u8 ((c.toNat &&& 127 : Nat) : Int)) (rd_and rfl rfl) (and8 (b := 127) (u8lt c) (by decide))) trivial rfl ?_
          refine o_rd (Reads.to (v' := .int .u64 ((c.toNat &&& 127 : Nat) : Int)) (rd_conv T5 T45 rfl) (conv8to64 (Nat.lt_of_le_of_lt Nat.and_le_left (u8lt c)))) trivial rfl ?_
          refine o_rd (rd_move rfl) trivial rfl ?_
          refine o_rd (rd_muli rfl rfl (by constructor <;> omega)) trivial rfl ?_
          refine o_rd (Reads.to (v' := .int .u64 (((c.toNat &&& 127) * 2 ^ (7 * i) % 18446744073709551616 : Nat) : Int)) (rd_shl rfl rfl (by omega)) (shl64 (by omega) (by omega))) trivial rfl ?_
          refine o_rd (Reads.to (v' := .int .u64 ((x ||| (c.toNat &&& 127) * 2 ^ (7 * i) % 18446744073709551616) : Nat)) (rd_or rfl rfl) (or64 hx (Nat.mod_lt _ (by omega)))) trivial rfl ?_
          refine o_rd (rd_assign rfl) trivial rfl ?_
          refine runO_nil (run_seq (run_region_lit ?_))
          refine o_rd (rd_move rfl) trivial rfl ?_
          refine o_tD (rd_lss rfl rfl) trivial rfl (fun c7 => ?_) (fun c7 => ?_)
          · refine runO_nil (run_cond_true rfl (run_seq (run_region_lit ?_)))
            refine o_rd (rd_move rfl) trivial rfl ?_
            refine o_rd (rd_move rfl) trivial rfl ?_
            refine o_rd (rd_addi rfl rfl (by constructor <;> omega)) trivial rfl ?_
            refine o_rd (rd_assign rfl) trivial rfl ?_
            refine o_rd (rd_assign rfl) trivial rfl ?_
            refine o_rd (rd_assign rfl) trivial rfl ?_
            refine runO_nil ?_
            refine run_ret Tryd.func95 (RV.tmp rfl (RV.tmp rfl (RV.tmp rfl RV.nil))) ?_
            -- ret 3 path L0.c1t.c2t.c3f.c4f.c7t. L []
            rw [← hnum]
            rw [numL_end hc (by omega) (by omega)]
            exact ⟨rfl, rfl⟩
          · refine runO_nil (run_cond_false rfl (run_skip (run_inBlock (run_region_lit ?_))))
            refine o_rd (rd_addi rfl rfl (by constructor <;> omega)) trivial rfl ?_
            refine o_rd (rd_move rfl) trivial rfl ?_
            refine runO_nil ?_
            -- round of loop 0 path L0.c1t.c2t.c3f.c4f.c7f. L []
            exact run_fewer (sub_cons rfl (sub_cons rfl (sub_cons rfl (sub_cons rfl (sub_nil _))))) (ih (i + 1, (x ||| (c.toNat &&& 127) * 2 ^ (7 * i) % 18446744073709551616)) w ⟨rfl, by omega, by omega, Nat.or_lt_two_pow (n := 64) hx (Nat.mod_lt _ (by omega)), by rw [← hnum]; exact (numL_go hc (by omega) (by omega)).symm⟩ (by simp only []; omega))
    · refine o_rd (rd_move rfl) trivial rfl ?_
      refine o_pass rfl rfl rfl rfl ?_
      refine o_pass rfl rfl rfl rfl ?_
      refine o_rd (rd_pick_f rfl rfl) trivial rfl ?_
      refine o_rd (rd_move rfl) trivial rfl ?_
      refine o_rd (rd_move rfl) rfl rfl ?_
      refine o_tD (rd_gtr rfl rfl) rfl rfl (fun c8 => ?_) (fun c8 => ?_)
      · refine o_rd (rd_move rfl) rfl rfl ?_
        refine o_rd (rd_move rfl) rfl rfl ?_
        refine o_tD (rd_eql rfl rfl) rfl rfl (fun c9 => ?_) (fun c9 => ?_)
        · refine o_rd (rd_pick_t rfl rfl) rfl rfl ?_
          refine o_rd (rd_pick_f rfl rfl) trivial rfl ?_
          refine runO_nil (run_cond_true rfl (run_seq (run_region_lit ?_)))
          refine o_rd (rd_assign rfl) trivial rfl ?_
          refine o_rd (rd_assign rfl) trivial rfl ?_
          refine o_rd (rd_assign rfl) trivial rfl ?_
          refine runO_nil ?_
          refine run_ret Tryd.func95 (RV.tmp rfl (RV.tmp rfl (RV.tmp rfl RV.nil))) ?_
          -- ret 4 path L0.c1t.c2f.c8t.c9t. L []
          rw [← hnum]
          rw [numL_bad hc (by omega)]
          exact ⟨rfl, rfl⟩
        · refine o_rd (rd_pick_t rfl rfl) rfl rfl ?_
          refine o_rd (rd_pick_f rfl rfl) trivial rfl ?_
          refine runO_nil (run_cond_false rfl (run_skip (run_seq (run_region_lit ?_))))
          refine o_rd (rd_move rfl) trivial rfl ?_
          refine o_rd (rd_move rfl) trivial rfl ?_
          refine o_rd (Reads.to (v' := .int .u8 ((c.toNat &&& 127 : Nat) : Int)) (rd_and rfl rfl) (and8 (b := 127) (u8lt c) (by decide))) trivial rfl ?_
          refine o_rd (Reads.to (v' := .int .u64 ((c.toNat &&& 127 : Nat) : Int)) (rd_conv T5 T45 rfl) (conv8to64 (Nat.lt_of_le_of_lt Nat.and_le_left (u8lt c)))) trivial rfl ?_
          refine o_rd (rd_move rfl) trivial rfl ?_
          refine o_rd (rd_muli rfl rfl (by constructor <;> omega)) trivial rfl ?_
          refine o_rd (Reads.to (v' := .int .u64 (((c.toNat &&& 127) * 2 ^ (7 * i) % 18446744073709551616 : Nat) : Int)) (rd_shl rfl rfl (by omega)) (shl64 (by omega) (by omega))) trivial rfl ?_
          refine o_rd (Reads.to (v' := .int .u64 ((x ||| (c.toNat &&& 127) * 2 ^ (7 * i) % 18446744073709551616) : Nat)) (rd_or rfl rfl) (or64 hx (Nat.mod_lt _ (by omega)))) trivial rfl ?_
          refine o_rd (rd_assign rfl) trivial rfl ?_
          refine runO_nil (run_seq (run_region_lit ?_))
          refine o_rd (rd_move rfl) trivial rfl ?_
          refine o_tD (rd_lss rfl rfl) trivial rfl (fun c10 => ?_) (fun c10 => ?_)
          · refine runO_nil (run_cond_true rfl (run_seq (run_region_lit ?_)))
            refine o_rd (rd_move rfl) trivial rfl ?_
            refine o_rd (rd_move rfl) trivial rfl ?_
            refine o_rd (rd_addi rfl rfl (by constructor <;> omega)) trivial rfl ?_
            refine o_rd (rd_assign rfl) trivial rfl ?_
            refine o_rd (rd_assign rfl) trivial rfl ?_
            refine o_rd (rd_assign rfl) trivial rfl ?_
            refine runO_nil ?_
            refine run_ret Tryd.func95 (RV.tmp rfl (RV.tmp rfl (RV.tmp rfl RV.nil))) ?_
            -- ret 5 path L0.c1t.c2f.c8t.c9f.c10t. L []
            rw [← hnum]
            rw [numL_end hc (by omega) (by omega)]
            exact ⟨rfl, rfl⟩
          · refine runO_nil (run_cond_false rfl (run_skip (run_inBlock (run_region_lit ?_))))
            refine o_rd (rd_addi rfl rfl (by constructor <;> omega)) trivial rfl ?_
            refine o_rd (rd_move rfl) trivial rfl ?_
            refine runO_nil ?_
            -- round of loop 0 path L0.c1t.c2f.c8t.c9f.c10f. L []
            exact run_fewer (sub_cons rfl (sub_cons rfl (sub_cons rfl (sub_cons rfl (sub_nil _))))) (ih (i + 1, (x ||| (c.toNat &&& 127) * 2 ^ (7 * i) % 18446744073709551616)) w ⟨rfl, by omega, by omega, Nat.or_lt_two_pow (n := 64) hx (Nat.mod_lt _ (by omega)), by rw [← hnum]; exact (numL_go hc (by omega) (by omega)).symm⟩ (by simp only []; omega))
      · refine o_rd (rd_move rfl) rfl rfl ?_
        refine o_pass rfl rfl rfl rfl ?_
        refine o_pass rfl rfl rfl rfl ?_
        refine o_rd (rd_pick_f rfl rfl) rfl rfl ?_
        refine o_rd (rd_pick_f rfl rfl) trivial rfl ?_
        refine runO_nil (run_cond_false rfl (run_skip (run_seq (run_region_lit ?_))))
        refine o_rd (rd_move rfl) trivial rfl ?_
        refine o_rd (rd_move rfl) trivial rfl ?_
        refine o_rd (Reads.to (v' := .int .u8 ((c.toNat &&& 127 : Nat) : Int)) (rd_and rfl rfl) (and8 (b := 127) (u8lt c) (by decide))) trivial rfl ?_
        refine o_rd (Reads.to (v' := .int .u64 ((c.toNat &&& 127 : Nat) : Int)) (rd_conv T5 T45 rfl) (conv8to64 (Nat.lt_of_le_of_lt Nat.and_le_left (u8lt c)))) trivial rfl ?_
        refine o_rd (rd_move rfl) trivial rfl ?_
        refine o_rd (rd_muli rfl rfl (by constructor <;> omega)) trivial rfl ?_
        refine o_rd (Reads.to (v' := .int .u64 (((c.toNat &&& 127) * 2 ^ (7 * i) % 18446744073709551616 : Nat) : Int)) (rd_shl rfl rfl (by omega)) (shl64 (by omega) (by omega))) trivial rfl ?_
        refine o_rd (Reads.to (v' := .int .u64 ((x ||| (c.toNat &&& 127) * 2 ^ (7 * i) % 18446744073709551616) : Nat)) (rd_or rfl rfl) (or64 hx (Nat.mod_lt _ (by omega)))) trivial rfl ?_
        refine o_rd (rd_assign rfl) trivial rfl ?_
        refine runO_nil (run_seq (run_region_lit ?_))
        refine o_rd (rd_move rfl) trivial rfl ?_
        refine o_tD (rd_lss rfl rfl) trivial rfl (fun c11 => ?_) (fun c11 => ?_)
        · refine runO_nil (run_cond_true rfl (run_seq (run_region_lit ?_)))
          refine o_rd (rd_move rfl) trivial rfl ?_
          refine o_rd (rd_move rfl) trivial rfl ?_
          refine o_rd (rd_addi rfl rfl (by constructor <;> omega)) trivial rfl ?_
          refine o_rd (rd_assign rfl) trivial rfl ?_
          refine o_rd (rd_assign rfl) trivial rfl ?_
          refine o_rd (rd_assign rfl) trivial rfl ?_
          refine runO_nil ?_
          refine run_ret Tryd.func95 (RV.tmp rfl (RV.tmp rfl (RV.tmp rfl RV.nil))) ?_
          -- ret 6 path L0.c1t.c2f.c8f.c11t. L []
          rw [← hnum]
          rw [numL_end hc (by omega) (by omega)]
          exact ⟨rfl, rfl⟩
        · refine runO_nil (run_cond_false rfl (run_skip (run_inBlock (run_region_lit ?_))))
          refine o_rd (rd_addi rfl rfl (by constructor <;> omega)) trivial rfl ?_
          refine o_rd (rd_move rfl) trivial rfl ?_
          refine runO_nil ?_
          -- round of loop 0 path L0.c1t.c2f.c8f.c11f. L []
          exact run_fewer (sub_cons rfl (sub_cons rfl (sub_cons rfl (sub_cons rfl (sub_nil _))))) (ih (i + 1, (x ||| (c.toNat &&& 127) * 2 ^ (7 * i) % 18446744073709551616)) w ⟨rfl, by omega, by omega, Nat.or_lt_two_pow (n := 64) hx (Nat.mod_lt _ (by omega)), by rw [← hnum]; exact (numL_go hc (by omega) (by omega)).symm⟩ (by simp only []; omega))
  · refine runO_nil (run_seq (run_cond_false rfl (run_exit rfl (run_seq (run_region_lit ?_)))))
    refine o_rd (rd_assign rfl) trivial rfl ?_
    refine o_rd (rd_assign rfl) trivial rfl ?_
    refine o_rd (rd_assign rfl) trivial rfl ?_
    refine runO_nil ?_
    refine run_ret Tryd.func95 (RV.tmp rfl (RV.tmp rfl (RV.tmp rfl RV.nil))) ?_
    -- ret 7 path L0.c1f. L []
    rw [← hnum]
    rw [numL_out (by omega)]
    exact ⟨rfl, h1⟩

theorem oc_Uint {b : Nat} {bs : List UInt8} {e : Int} {w : World} {R : List Hp} (h : Sat w (rdrR b bs e :: R)) :
    FnC Tryd.prog 83 [.pointer (some ⟨b, 0, none⟩)] w fun v w' => v = .int .u64 (rUint bs e).1 ∧ Sat w' (rdrR b (rUint bs e).2.1 (rUint bs e).2.2 :: R) := by
  obtain ⟨a, c, k1, k2, k3, h⟩ := rdrR_open h
  have hr := num_range bs
  refine fnC_of_run Tryd.func83 rfl Tryd.ntmps83 (Nat.le_of_ble_eq_true rfl) (fun cs => ?_)
  refine run_seq (run_region_lit ?_)
  refine o_rd (rd_assign rfl) trivial rfl ?_
  refine runO_nil (run_seq (run_seq (run_region_lit ?_)))
  refine o_rd (rd_move rfl) trivial rfl ?_
  refine o_rd (rd_eqlP0 T118 rfl rfl) trivial rfl ?_
  refine o_rd (rd_move rfl) trivial rfl ?_
  refine o_rd (rd_move rfl) rfl rfl ?_
  refine o_rd (rd_nil rfl) rfl rfl ?_
  refine o_rd (rd_fieldA F134_0 S132 rfl) rfl rfl ?_
  refine o_ef rfl (ef_call (Tryd.call93) rfl rfl ?_)
  refine FnC.mono (oc_ready h) ?_
  rintro _ w ⟨rfl, h⟩
  refine o_know (b := _) 12 rfl (fun c1 => ?_) (fun c1 => ?_)
  · replace c1 := of_decide_eq_true c1
    refine o_rd (rd_not rfl) rfl rfl ?_
    refine o_rd (rd_pick_f rfl rfl) trivial rfl ?_
    refine runO_nil (run_cond_false rfl (run_skip (run_seq (run_region_lit ?_))))
    refine o_rd (rd_move rfl) trivial rfl ?_
    refine o_rd (rd_nil rfl) trivial rfl ?_
    refine o_rd (rd_fieldA F134_0 S132 rfl) trivial rfl ?_
    refine o_rd (rd_fieldA F132_1 S32 rfl) trivial rfl ?_
    refine o_ld rfl (h.at_ 0 rfl) T32 rfl rfl trivial rfl ?_
    refine o_ef trivial (ef_call (Tryd.call95) rfl rfl ?_)
    refine FnC.mono (oc_number (h.rowOf 1 rfl (fun g x => x)) k3) ?_
    rintro _ _ ⟨rfl, rfl⟩
    refine o_rd (rd_move rfl) trivial rfl ?_
    refine o_rd (rd_extract rfl rfl) trivial rfl ?_
    refine o_rd (rd_extract rfl rfl) trivial rfl ?_
    refine o_rd (rd_extract rfl rfl) trivial rfl ?_
    refine o_rd (rd_assign rfl) trivial rfl ?_
    refine o_rd (rd_assign rfl) trivial rfl ?_
    refine o_rd (rd_assign rfl) trivial rfl ?_
    refine runO_nil (run_seq (run_seq (run_region_lit ?_)))
    refine o_rd (rd_move rfl) trivial rfl ?_
    refine o_tN (rd_neq rfl rfl) trivial rfl (fun c2 => ?_) (fun c2 => ?_)
    · refine runO_nil (run_cond_true rfl (run_seq (run_region_lit ?_)))
      refine o_rd (rd_move rfl) trivial rfl ?_
      refine o_rd (rd_nil rfl) trivial rfl ?_
      refine o_rd (rd_fieldA F134_0 S132 rfl) trivial rfl ?_
      refine o_rd (rd_move rfl) trivial rfl ?_
      refine o_ef trivial (ef_call (Tryd.call94) rfl rfl ?_)
      refine FnC.mono (oc_refuse h) ?_
      rintro _ w h
      refine runO_nil (run_seq (run_region_lit ?_))
      refine o_rd (rd_assign rfl) trivial rfl ?_
      refine runO_nil ?_
      refine run_ret Tryd.func83 (RV.tmp rfl RV.nil) ?_
      -- ret 0 path c1t.c2t. L ['b', 'row']
      rw [show rUint bs e = (0, bs, (num bs).2.2) by simp [rUint, c1, c2]]
      exact ⟨rfl, rdrR_close k1 k2 k3 h⟩
    · refine runO_nil (run_cond_false rfl (run_skip (run_seq (run_region_lit ?_))))
      refine o_rd (rd_move rfl) trivial rfl ?_
      refine o_rd (rd_nil rfl) trivial rfl ?_
      refine o_rd (rd_fieldA F134_0 S132 rfl) trivial rfl ?_
      refine o_rd (rd_move rfl) trivial rfl ?_
      refine o_ef trivial (ef_call (Tryd.call96) rfl rfl ?_)
      refine FnC.mono (oc_take (n := (num bs).2.1) (num_len c2).2 (by omega) (by omega) h) ?_
      rintro _ w ⟨rfl, h⟩
      refine runO_nil (run_seq (run_region_lit ?_))
      refine o_rd (rd_move rfl) trivial rfl ?_
      refine o_rd (rd_assign rfl) trivial rfl ?_
      refine runO_nil ?_
      refine run_ret Tryd.func83 (RV.tmp rfl RV.nil) ?_
      -- ret 1 path c1t.c2f. L ['b', 'row']
      rw [show rUint bs e = ((num bs).1, bs.drop (num bs).2.1, 0) by simp [rUint, c1, c2]]
      subst c1
      exact ⟨rfl, rdrR_take _ (num_len c2).2 k1 k2 k3 h⟩
  · replace c1 := of_decide_eq_false c1
    refine o_rd (rd_not rfl) rfl rfl ?_
    refine o_rd (rd_pick_f rfl rfl) trivial rfl ?_
    refine runO_nil (run_cond_true rfl (run_seq (run_region_lit ?_)))
    refine o_rd (rd_assign rfl) trivial rfl ?_
    refine runO_nil ?_
    refine run_ret Tryd.func83 (RV.tmp rfl RV.nil) ?_
    -- ret 2 path c1f. L ['b', 'row']
    rw [show rUint bs e = (0, bs, e) by simp [rUint, c1]]
    exact ⟨rfl, rdrR_close k1 k2 k3 h⟩

theorem oc_Word {b : Nat} {bs : List UInt8} {e : Int} {w : World} {R : List Hp} (h : Sat w (rdrR b bs e :: R)) :
    FnC Tryd.prog 76 [.pointer (some ⟨b, 0, none⟩)] w fun v w' => v = .int .u64 (rWord bs e).1 ∧ Sat w' (rdrR b (rWord bs e).2.1 (rWord bs e).2.2 :: R) := by
  obtain ⟨a, c, k1, k2, k3, h⟩ := rdrR_open h
  have hr := num_range bs
  refine fnC_of_run Tryd.func76 rfl Tryd.ntmps76 (Nat.le_of_ble_eq_true rfl) (fun cs => ?_)
  refine run_seq (run_region_lit ?_)
  refine o_rd (rd_assign rfl) trivial rfl ?_
  refine runO_nil (run_seq (run_seq (run_region_lit ?_)))
  refine o_rd (rd_move rfl) trivial rfl ?_
  refine o_rd (rd_eqlP0 T118 rfl rfl) trivial rfl ?_
  refine o_rd (rd_move rfl) trivial rfl ?_
  refine o_rd (rd_move rfl) rfl rfl ?_
  refine o_rd (rd_nil rfl) rfl rfl ?_
  refine o_rd (rd_fieldA F134_0 S132 rfl) rfl rfl ?_
  refine o_ef rfl (ef_call (Tryd.call93) rfl rfl ?_)
  refine FnC.mono (oc_ready h) ?_
  rintro _ w ⟨rfl, h⟩
  refine o_know (b := _) 12 rfl (fun c1 => ?_) (fun c1 => ?_)
  · replace c1 := of_decide_eq_true c1
    refine o_rd (rd_not rfl) rfl rfl ?_
    refine o_rd (rd_pick_f rfl rfl) trivial rfl ?_
    refine runO_nil (run_cond_false rfl (run_skip (run_seq (run_seq (run_region_lit ?_)))))
    refine o_rd (rd_move rfl) trivial rfl ?_
    refine o_rd (rd_nil rfl) trivial rfl ?_
    refine o_rd (rd_fieldA F134_0 S132 rfl) trivial rfl ?_
    refine o_rd (rd_fieldA F132_1 S32 rfl) trivial rfl ?_
    refine o_ld rfl (h.at_ 0 rfl) T32 rfl rfl trivial rfl ?_
    refine o_rd (rd_len (u := 0) T32 rfl) trivial rfl ?_
    refine o_tD (rd_lss rfl rfl) trivial rfl (fun c2 => ?_) (fun c2 => ?_)
    · refine runO_nil (run_cond_true rfl (run_seq (run_region_lit ?_)))
      refine o_rd (rd_move rfl) trivial rfl ?_
      refine o_rd (rd_nil rfl) trivial rfl ?_
      refine o_rd (rd_fieldA F134_0 S132 rfl) trivial rfl ?_
      refine o_ef trivial (ef_call (Tryd.call94) rfl rfl ?_)
      refine FnC.mono (oc_refuse h) ?_
      rintro _ w h
      refine runO_nil (run_seq (run_region_lit ?_))
      refine o_rd (rd_assign rfl) trivial rfl ?_
      refine runO_nil ?_
      refine run_ret Tryd.func76 (RV.tmp rfl RV.nil) ?_
      -- ret 0 path c1t.c2t. L ['b', 'row']
      rw [show rWord bs e = (0, bs, 110) by simp only [rWord, if_pos c1, if_pos (show bs.length < 8 by omega)]]
      exact ⟨rfl, rdrR_close k1 k2 k3 h⟩
    · refine runO_nil (run_cond_false rfl (run_skip (run_seq (run_region_lit ?_))))
      refine o_rd (rd_assign rfl) trivial rfl ?_
      refine runO_nil (run_seq (run_seq (run_region_lit ?_)))
      refine o_rd (rd_move rfl) trivial rfl ?_
      refine o_rd (rd_nil rfl) trivial rfl ?_
      refine o_rd (rd_fieldA F134_0 S132 rfl) trivial rfl ?_
      refine o_ef trivial (ef_call (Tryd.call96) rfl rfl ?_)
      refine FnC.mono (oc_take (n := 8) (by omega) (by omega) (by omega) h) ?_
      rintro _ w ⟨rfl, h⟩
      refine o_rd (rd_len (u := 0) T32 rfl) trivial rfl ?_
      refine o_rd (rd_move rfl) trivial rfl ?_
      refine runO_nil (run_block ?_)
      refine run_loop (σ := Nat × Nat) (fun (i, x) => [(3, .int .u64 (x : Nat)), (29, .slice a 8 8), (30, .int .i64 8), (31, .int .i64 (i : Nat))]) (fun (i, x) w => Sat w (pt b (.cells #[.bool true, .slice (adv a 8 1 c) (bs.length - 8) (c - 8), .int .i64 e] 134) :: rowR a (bcells bs) :: R) ∧ i ≤ 8 ∧ x < 18446744073709551616 ∧ beL x ((bs.take 8).drop i) = be8 (bs.take 8)) (fun (i, x) => 8 - i) (0, 0) ?_ (sub_cons rfl (sub_cons rfl (sub_cons rfl (sub_cons rfl (sub_nil _))))) ?_
      · exact ⟨h, Nat.zero_le _, by omega, rfl⟩
      clear h
      rintro ⟨i, x⟩ w ⟨h, hi, hx, hbe⟩ ih
      refine run_seq (run_region_lit ?_)
      refine o_tD (rd_lss rfl rfl) trivial rfl (fun c3 => ?_) (fun c3 => ?_)
      · refine runO_nil (run_seq (run_cond_true rfl (run_skip (run_seq (run_block (run_seq ?_))))))
        have hr := h.rowOf 1 rfl (fun g x => x)
        obtain ⟨x1, hc⟩ : ∃ c, bs[i]? = some c := ⟨_, List.getElem?_eq_getElem (by omega)⟩
        obtain ⟨bb, o, C, E, fr, rfl, hb, hcell⟩ := RowW.get hr (bcells_get hc)
        refine run_region_lit ?_
        refine o_rd (Reads.to (v' := .pointer (some ⟨bb, o + i, none⟩)) (rd_idx T32 S5 rfl rfl (by omega) (by omega)) (by simp)) trivial rfl ?_
        refine o_ld rfl hb T5 rfl (hcell _ _ (bcells_get hc)) trivial rfl ?_
        refine o_rd (rd_assign rfl) trivial rfl ?_
        refine runO_nil (run_region_lit ?_)
        refine o_rd (rd_move rfl) trivial rfl ?_
        refine o_rd (Reads.to (v' := .int .u64 ((x * 256 % 18446744073709551616 : Nat) : Int)) (rd_shl rfl rfl (by omega)) (shl64 (n := 8) rfl (by decide))) trivial rfl ?_
        refine o_rd (rd_move rfl) trivial rfl ?_
        refine o_rd (Reads.to (v' := .int .u64 (x1.toNat : Int)) (rd_conv T5 T45 rfl) (conv8to64 (u8lt x1))) trivial rfl ?_
        refine o_rd (Reads.to (v' := .int .u64 ((x * 256 % 18446744073709551616 ||| x1.toNat : Nat) : Int)) (rd_or rfl rfl) (or64 (Nat.mod_lt _ (by omega)) (Nat.lt_trans (u8lt x1) (by omega)))) trivial rfl ?_
        refine o_rd (rd_assign rfl) trivial rfl ?_
        refine runO_nil (run_inBlock (run_region_lit ?_))
        refine o_rd (rd_addi rfl rfl (by constructor <;> omega)) trivial rfl ?_
        refine o_rd (rd_move rfl) trivial rfl ?_
        refine runO_nil ?_
        -- round of loop 0 path c1t.c2f.L0.c3t. L ['b', 'row']
        exact run_fewer (sub_cons rfl (sub_cons rfl (sub_cons rfl (sub_cons rfl (sub_nil _))))) (ih (i + 1, x * 256 % 18446744073709551616 ||| x1.toNat) w ⟨h, by omega, Nat.or_lt_two_pow (n := 64) (Nat.mod_lt _ (by omega)) (Nat.lt_trans (u8lt x1) (by omega)), by rw [← hbe, drop_cons (show (bs.take 8)[i]? = some x1 by rw [List.getElem?_take, if_pos (by omega)]; exact hc)]; rfl⟩ (by simp only []; omega))
      · refine runO_nil (run_seq (run_cond_false rfl (run_exit rfl (run_seq (run_region_lit ?_)))))
        refine o_rd (rd_move rfl) trivial rfl ?_
        refine o_rd (rd_assign rfl) trivial rfl ?_
        refine runO_nil ?_
        refine run_ret Tryd.func76 (RV.tmp rfl RV.nil) ?_
        -- ret 1 path c1t.c2f.L0.c3f. L ['b', 'row']
        rw [List.drop_eq_nil_of_le (by simp; omega)] at hbe
        have hbe : x = be8 (bs.take 8) := hbe
        subst hbe
        rw [show rWord bs e = (be8 (bs.take 8), bs.drop 8, 0) by simp only [rWord, if_pos c1, if_neg (show ¬bs.length < 8 by omega)]]
        subst c1
        exact ⟨rfl, rdrR_take 8 (by omega) k1 k2 k3 h⟩
  · replace c1 := of_decide_eq_false c1
    refine o_rd (rd_not rfl) rfl rfl ?_
    refine o_rd (rd_pick_f rfl rfl) trivial rfl ?_
    refine runO_nil (run_cond_true rfl (run_seq (run_region_lit ?_)))
    refine o_rd (rd_assign rfl) trivial rfl ?_
    refine runO_nil ?_
    refine run_ret Tryd.func76 (RV.tmp rfl RV.nil) ?_
    -- ret 2 path c1f. L ['b', 'row']
    rw [show rWord bs e = (0, bs, e) by simp only [rWord, if_neg c1]]
    exact ⟨rfl, rdrR_close k1 k2 k3 h⟩

theorem oc_Text {b : Nat} {bs : List UInt8} {e : Int} {most : Nat} {w : World} {R : List Hp} (hmost : most < 1000000000) (h : Sat w (rdrR b bs e :: R)) :
    FnC Tryd.prog 75 [.pointer (some ⟨b, 0, none⟩), .int .i64 most] w fun v w' => v = .string (bstr (rText most bs e).1) ∧ Sat w' (rdrR b (rText most bs e).2.1 (rText most bs e).2.2 :: R) := by
  obtain ⟨a, c, k1, k2, k3, h⟩ := rdrR_open h
  have hr := num_range bs
  refine fnC_of_run Tryd.func75 rfl Tryd.ntmps75 (Nat.le_of_ble_eq_true rfl) (fun cs => ?_)
  refine run_seq (run_region_lit ?_)
  refine o_rd (rd_assign rfl) trivial rfl ?_
  refine runO_nil (run_seq (run_seq (run_region_lit ?_)))
  refine o_rd (rd_move rfl) trivial rfl ?_
  refine o_rd (rd_eqlP0 T118 rfl rfl) trivial rfl ?_
  refine o_rd (rd_move rfl) trivial rfl ?_
  refine o_rd (rd_move rfl) rfl rfl ?_
  refine o_rd (rd_nil rfl) rfl rfl ?_
  refine o_rd (rd_fieldA F134_0 S132 rfl) rfl rfl ?_
  refine o_ef rfl (ef_call (Tryd.call93) rfl rfl ?_)
  refine FnC.mono (oc_ready h) ?_
  rintro _ w ⟨rfl, h⟩
  refine o_know (b := _) 14 rfl (fun c1 => ?_) (fun c1 => ?_)
  · replace c1 := of_decide_eq_true c1
    refine o_rd (rd_not rfl) rfl rfl ?_
    refine o_rd (rd_pick_f rfl rfl) trivial rfl ?_
    refine runO_nil (run_cond_false rfl (run_skip (run_seq (run_seq (run_region_lit ?_)))))
    refine o_rd (rd_move rfl) trivial rfl ?_
    refine o_tD (rd_lss rfl rfl) trivial rfl (fun c2 => ?_) (fun c2 => ?_)
    · exact absurd c2 (by omega)
    · refine runO_nil (run_cond_false rfl (run_skip (run_seq (run_region_lit ?_))))
      refine o_rd (rd_move rfl) trivial rfl ?_
      refine o_rd (rd_nil rfl) trivial rfl ?_
      refine o_rd (rd_fieldA F134_0 S132 rfl) trivial rfl ?_
      refine o_rd (rd_fieldA F132_1 S32 rfl) trivial rfl ?_
      refine o_ld rfl (h.at_ 0 rfl) T32 rfl rfl trivial rfl ?_
      refine o_ef trivial (ef_call (Tryd.call95) rfl rfl ?_)
      refine FnC.mono (oc_number (h.rowOf 1 rfl (fun g x => x)) k3) ?_
      rintro _ _ ⟨rfl, rfl⟩
      refine o_rd (rd_move rfl) trivial rfl ?_
      refine o_rd (rd_extract rfl rfl) trivial rfl ?_
      refine o_rd (rd_extract rfl rfl) trivial rfl ?_
      refine o_rd (rd_extract rfl rfl) trivial rfl ?_
      refine o_rd (rd_assign rfl) trivial rfl ?_
      refine o_rd (rd_assign rfl) trivial rfl ?_
      refine o_rd (rd_assign rfl) trivial rfl ?_
      refine runO_nil (run_seq (run_block (run_seq (run_region_lit ?_))))
      refine o_rd (rd_move rfl) trivial rfl ?_
      refine o_tN (rd_neq rfl rfl) trivial rfl (fun c3 => ?_) (fun c3 => ?_)
      · refine o_rd (rd_assign rfl) trivial rfl ?_
        refine runO_nil (run_cond_true rfl (run_region_lit ?_))
        refine o_rd (rd_move rfl) trivial rfl ?_
        refine o_rd (rd_nil rfl) trivial rfl ?_
        refine o_rd (rd_fieldA F134_0 S132 rfl) trivial rfl ?_
        refine o_rd (rd_move rfl) trivial rfl ?_
        refine o_ef trivial (ef_call (Tryd.call94) rfl rfl ?_)
        refine FnC.mono (oc_refuse h) ?_
        rintro _ w h
        refine runO_nil (run_inBlock (run_seq (run_region_lit ?_)))
        refine o_rd (rd_assign rfl) trivial rfl ?_
        refine runO_nil ?_
        refine run_ret Tryd.func75 (RV.tmp rfl RV.nil) ?_
        -- ret 0 path c1t.c2f.c3t. L ['b', 'row']
        rw [show rText most bs e = ([], bs, (num bs).2.2) by simp only [rText, if_pos c1, if_neg c3]]
        exact ⟨rfl, rdrR_close k1 k2 k3 h⟩
      · have hl := num_len c3
        refine o_rd (rd_assign rfl) trivial rfl ?_
        refine runO_nil (run_cond_false rfl (run_seq (run_region_lit ?_)))
        refine o_rd (rd_move rfl) trivial rfl ?_
        refine o_rd (rd_move rfl) trivial rfl ?_
        refine o_rd (Reads.to (v' := .int .u64 (most : Int)) (rd_conv T3 T45 rfl) (convU64 (by omega))) trivial rfl ?_
        refine o_tD (rd_gtr rfl rfl) trivial rfl (fun c4 => ?_) (fun c4 => ?_)
        · refine o_rd (rd_assign rfl) trivial rfl ?_
          refine runO_nil (run_cond_true rfl (run_region_lit ?_))
          refine o_rd (rd_move rfl) trivial rfl ?_
          refine o_rd (rd_nil rfl) trivial rfl ?_
          refine o_rd (rd_fieldA F134_0 S132 rfl) trivial rfl ?_
          refine o_ef trivial (ef_call (Tryd.call94) rfl rfl ?_)
          refine FnC.mono (oc_refuse h) ?_
          rintro _ w h
          refine runO_nil (run_inBlock (run_seq (run_region_lit ?_)))
          refine o_rd (rd_assign rfl) trivial rfl ?_
          refine runO_nil ?_
          refine run_ret Tryd.func75 (RV.tmp rfl RV.nil) ?_
          -- ret 1 path c1t.c2f.c3f.c4t. L ['b', 'row']
          rw [show rText most bs e = ([], bs, 3) by simp only [rText, if_pos c1, if_pos c3, if_pos (show most < (num bs).1 by omega)]]
          exact ⟨rfl, rdrR_close k1 k2 k3 h⟩
        · refine o_rd (rd_assign rfl) trivial rfl ?_
          refine runO_nil (run_cond_false rfl (run_seq (run_region_lit ?_)))
          refine o_rd (rd_move rfl) trivial rfl ?_
          refine o_rd (rd_move rfl) trivial rfl ?_
          refine o_rd (rd_nil rfl) trivial rfl ?_
          refine o_rd (rd_fieldA F134_0 S132 rfl) trivial rfl ?_
          refine o_rd (rd_fieldA F132_1 S32 rfl) trivial rfl ?_
          refine o_ld rfl (h.at_ 0 rfl) T32 rfl rfl trivial rfl ?_
          refine o_rd (rd_len (u := 0) T32 rfl) trivial rfl ?_
          refine o_rd (rd_move rfl) trivial rfl ?_
          refine o_rd (rd_subi rfl rfl (by constructor <;> omega)) trivial rfl ?_
          refine o_rd (Reads.to (v' := .int .u64 ((bs.length - (num bs).2.1 : Nat) : Int)) (rd_conv T3 T45 rfl) (by rw [show ((bs.length : Int) - ((num bs).2.1 : Int)) = ((bs.length - (num bs).2.1 : Nat) : Int) by omega]; exact convU64 (by omega))) trivial rfl ?_
          refine o_tD (rd_gtr rfl rfl) trivial rfl (fun c5 => ?_) (fun c5 => ?_)
          · refine o_rd (rd_assign rfl) trivial rfl ?_
            refine runO_nil (run_cond_true rfl (run_region_lit ?_))
            refine o_rd (rd_move rfl) trivial rfl ?_
            refine o_rd (rd_nil rfl) trivial rfl ?_
            refine o_rd (rd_fieldA F134_0 S132 rfl) trivial rfl ?_
            refine o_ef trivial (ef_call (Tryd.call94) rfl rfl ?_)
            refine FnC.mono (oc_refuse h) ?_
            rintro _ w h
            refine runO_nil (run_inBlock (run_seq (run_region_lit ?_)))
            refine o_rd (rd_assign rfl) trivial rfl ?_
            refine runO_nil ?_
            refine run_ret Tryd.func75 (RV.tmp rfl RV.nil) ?_
            -- ret 2 path c1t.c2f.c3f.c4f.c5t. L ['b', 'row']
            rw [show rText most bs e = ([], bs, 110) by simp only [rText, if_pos c1, if_pos c3, if_neg (show ¬most < (num bs).1 by omega), if_pos (show bs.length - (num bs).2.1 < (num bs).1 by omega)]]
            exact ⟨rfl, rdrR_close k1 k2 k3 h⟩
          · refine o_rd (rd_assign rfl) trivial rfl ?_
            refine runO_nil (run_cond_false rfl (run_seq (run_region_lit ?_)))
            refine o_rd (rd_move rfl) trivial rfl ?_
            refine o_rd (rd_nil rfl) trivial rfl ?_
            refine o_rd (rd_fieldA F134_0 S132 rfl) trivial rfl ?_
            refine o_rd (rd_move rfl) trivial rfl ?_
            refine o_ef trivial (ef_call (Tryd.call96) rfl rfl ?_)
            refine FnC.mono (oc_take (n := (num bs).2.1) hl.2 (by omega) (by omega) h) ?_
            rintro _ w ⟨rfl, h⟩
            refine runO_nil (run_seq (run_region_lit ?_))
            refine o_rd (rd_move rfl) trivial rfl ?_
            refine o_rd (rd_nil rfl) trivial rfl ?_
            refine o_rd (rd_fieldA F134_0 S132 rfl) trivial rfl ?_
            refine o_rd (rd_move rfl) trivial rfl ?_
            refine o_rd (Reads.to (v' := .int .i64 ((num bs).1 : Int)) (rd_conv T45 T3 rfl) (convI64 (by omega))) trivial rfl ?_
            refine o_ef trivial (ef_call (Tryd.call96) rfl rfl ?_)
            refine FnC.mono (oc_take (n := (num bs).1) (by omega) (by omega) (by omega) h) ?_
            rintro _ w ⟨rfl, h⟩
            refine o_ef trivial (ef_convBS Tryd.underlying32 Tryd.underlying5 Tryd.underlying9 rfl (by have e : ((bs.drop (num bs).2.1).take (num bs).1).length = (num bs).1 := (by simp only [List.length_take, List.length_drop]; omega); exact e.symm) (by have := RowH.take (RowH.drop (h.rowOf 1 rfl (fun g x => x)) (num bs).2.1 1 c (by simp [bcells]; omega)) (num bs).1; rw [Nat.mul_one, ← bcells_drop, ← bcells_take] at this; exact this) rfl ?_)
            refine o_rd (rd_assign rfl) trivial rfl ?_
            refine runO_nil ?_
            refine run_ret Tryd.func75 (RV.tmp rfl RV.nil) ?_
            -- ret 3 path c1t.c2f.c3f.c4f.c5f. L ['b', 'row']
            rw [show rText most bs e = ((bs.drop (num bs).2.1).take (num bs).1, (bs.drop (num bs).2.1).drop (num bs).1, 0) by simp only [rText, if_pos c1, if_pos c3, if_neg (show ¬most < (num bs).1 by omega), if_neg (show ¬bs.length - (num bs).2.1 < (num bs).1 by omega)]]
            subst c1
            exact ⟨rfl, rdrR_take2 _ _ hl.2 (by omega) k1 k2 k3 h⟩
  · replace c1 := of_decide_eq_false c1
    refine o_rd (rd_not rfl) rfl rfl ?_
    refine o_rd (rd_pick_f rfl rfl) trivial rfl ?_
    refine runO_nil (run_cond_true rfl (run_seq (run_region_lit ?_)))
    refine o_rd (rd_assign rfl) trivial rfl ?_
    refine runO_nil ?_
    refine run_ret Tryd.func75 (RV.tmp rfl RV.nil) ?_
    -- ret 4 path c1f. L ['b', 'row']
    rw [show rText most bs e = ([], bs, e) by simp only [rText, if_neg c1]]
    exact ⟨rfl, rdrR_close k1 k2 k3 h⟩

theorem oc_Hash {a : Option Addr} {cap : Nat} {bs : List UInt8} {w0 : World} (hr : RowW w0 a (bcells bs)) (hl : bs.length ≤ 140737488355328)  :
    FnC Tryd.prog 78 [.slice a bs.length cap] w0 fun v w' => v = .int .u64 (hsh bs : Nat) ∧ w' = w0 := by
  refine fnC_of_run Tryd.func78 rfl Tryd.ntmps78 (Nat.le_of_ble_eq_true rfl) (fun cs => ?_)
  refine run_seq (run_region_lit ?_)
  refine o_rd (rd_assign rfl) trivial rfl ?_
  refine runO_nil (run_seq (run_region_lit ?_))
  refine o_rd (rd_assign rfl) trivial rfl ?_
  refine runO_nil (run_seq (run_seq (run_region_lit ?_)))
  refine o_rd (rd_move rfl) trivial rfl ?_
  refine o_rd (rd_len (u := 0) T32 rfl) trivial rfl ?_
  refine o_rd (rd_move rfl) trivial rfl ?_
  refine runO_nil (run_block ?_)
  refine run_loop (σ := Nat × Nat) (fun (i, x) => [(3, .int .u64 (x : Nat)), (6, .slice a bs.length cap), (7, .int .i64 bs.length), (8, .int .i64 (i : Nat))]) (fun (i, x) w => w = w0 ∧ i ≤ bs.length ∧ x < 18446744073709551616 ∧ hashL x (bs.drop i) = hsh bs) (fun (i, x) => bs.length - i) (0, 14695981039346656037) ?_ (sub_cons rfl (sub_cons rfl (sub_cons rfl (sub_cons rfl (sub_nil _))))) ?_
  · exact ⟨rfl, Nat.zero_le _, by omega, rfl⟩
  rintro ⟨i, x⟩ w ⟨h1, hi, hx, hnum⟩ ih
  refine run_seq (run_region_lit ?_)
  refine o_tD (rd_lss rfl rfl) trivial rfl (fun c1 => ?_) (fun c1 => ?_)
  · refine runO_nil (run_seq (run_cond_true rfl (run_skip (run_seq (run_block (run_seq ?_))))))
    obtain ⟨c, hc⟩ : ∃ c, bs[i]? = some c := ⟨_, List.getElem?_eq_getElem (by omega)⟩
    subst h1
    obtain ⟨bb, o, C, E, fr, rfl, hb, hcell⟩ := RowW.get hr (bcells_get hc)
    refine run_region_lit ?_
    refine o_rd (Reads.to (v' := .pointer (some ⟨bb, o + i, none⟩)) (rd_idx T32 S5 rfl rfl (by omega) (by omega)) (by simp)) trivial rfl ?_
    refine o_ld rfl hb T5 rfl (hcell _ _ (bcells_get hc)) trivial rfl ?_
    refine o_rd (rd_assign rfl) trivial rfl ?_
    refine runO_nil (run_seq (run_region_lit ?_))
    refine o_rd (rd_move rfl) trivial rfl ?_
    refine o_rd (rd_move rfl) trivial rfl ?_
    refine o_rd (Reads.to (v' := .int .u64 (c.toNat : Int)) (rd_conv T5 T45 rfl) (conv8to64 (u8lt c))) trivial rfl ?_
    refine o_rd (Reads.to (v' := .int .u64 ((x ^^^ c.toNat : Nat) : Int)) (rd_xor rfl rfl) (xor64 hx (Nat.lt_trans (u8lt c) (by omega)))) trivial rfl ?_
    refine o_rd (rd_assign rfl) trivial rfl ?_
    refine runO_nil (run_region_lit ?_)
    refine o_rd (rd_move rfl) trivial rfl ?_
    refine o_rd (Reads.to (v' := .int .u64 (((x ^^^ c.toNat) * 1099511628211 % 18446744073709551616 : Nat) : Int)) (rd_mul rfl rfl) (mul64 (b := 1099511628211))) trivial rfl ?_
    refine o_rd (rd_assign rfl) trivial rfl ?_
    refine runO_nil (run_inBlock (run_region_lit ?_))
    refine o_rd (rd_addi rfl rfl (by constructor <;> omega)) trivial rfl ?_
    refine o_rd (rd_move rfl) trivial rfl ?_
    refine runO_nil ?_
    -- round of loop 0 path L0.c1t. L []
    exact run_fewer (sub_cons rfl (sub_cons rfl (sub_cons rfl (sub_cons rfl (sub_nil _))))) (ih (i + 1, (x ^^^ c.toNat) * 1099511628211 % 18446744073709551616) w ⟨rfl, by omega, Nat.mod_lt _ (by omega), by rw [← hnum, drop_cons hc]; rfl⟩ (by simp only []; omega))
  · refine runO_nil (run_seq (run_cond_false rfl (run_exit rfl (run_seq (run_region_lit ?_)))))
    refine o_rd (rd_move rfl) trivial rfl ?_
    refine o_rd (rd_assign rfl) trivial rfl ?_
    refine runO_nil ?_
    refine run_ret Tryd.func78 (RV.tmp rfl RV.nil) ?_
    -- ret 0 path L0.c1f. L []
    rw [List.drop_eq_nil_of_le (by omega)] at hnum
    have hnum : x = hsh bs := hnum
    rw [← hnum]
    exact ⟨rfl, h1⟩

theorem oc_PutUint {B : Hp} {a : Option Addr} {cap : Nat} {bs : List UInt8} {x : Nat} {w : World} {R : List Hp} (hB : ∀ g, B g → RowH g a (bcells bs)) (hbd : bs.length ≤ 100000000) (hx : x < 18446744073709551616) (h : Sat w (B :: R)) :
    FnC Tryd.prog 52 [.slice a bs.length cap, .int .u64 (x : Nat)] w fun v w' => ∃ a' n' c', v = .slice a' n' c' ∧ Sat w' (OwnS 5 1 (.slice a' n' c') (bcells (bs ++ putU x)) :: B :: R) := by
  refine fnC_of_run Tryd.func52 rfl Tryd.ntmps52 (Nat.le_of_ble_eq_true rfl) (fun cs => ?_)
  refine run_seq (run_region_lit ?_)
  refine o_rd (rd_assign rfl) trivial rfl ?_
  refine runO_nil (run_seq (run_region_lit ?_))
  refine o_rd (rd_move rfl) trivial rfl ?_
  refine o_ef trivial (ef_call (Tryd.call30) rfl rfl ?_)
  refine FnC.mono (clone_bytes hB (by omega) h) ?_
  rintro _ w ⟨a2, n2, c2, rfl, h⟩
  obtain ⟨hn2, hc2, hm2⟩ := own_len 0 h rfl
  subst hn2
  refine o_rd (rd_assign rfl) trivial rfl ?_
  refine runO_nil (run_seq (run_block ?_))
  refine run_loop (σ := Nat × List UInt8 × Value) (fun (y, acc, s) => [(1, .int .u64 (y : Nat)), (5, s)]) (fun (y, acc, s) w => Sat w (OwnS 5 1 s (bcells acc) :: B :: R) ∧ y < 18446744073709551616 ∧ acc ++ putU y = bs ++ putU x) (fun (y, acc, s) => y) (x, bs, .slice a2 bs.length c2) ?_ (sub_cons rfl (sub_cons rfl (sub_nil _))) ?_
  · exact ⟨h, hx, rfl⟩
  clear h
  rintro ⟨y, acc, s⟩ w ⟨h, hy, hacc⟩ ih
  have hlen := congrArg List.length hacc
  have hl1 := putU_len10 hy
  have hl2 := putU_len10 hx
  simp only [List.length_append] at hlen
  refine run_seq (run_seq (run_region_lit ?_))
  refine o_rd (rd_move rfl) trivial rfl ?_
  refine o_tD (rd_geq rfl rfl) trivial rfl (fun c1 => ?_) (fun c1 => ?_)
  · refine runO_nil (run_cond_true rfl (run_skip (run_block (run_seq (run_region_lit ?_)))))
    refine o_rd (rd_move rfl) trivial rfl ?_
    refine o_rd (rd_move rfl) trivial rfl ?_
    refine o_rd (Reads.to (v' := .int .u8 ((y % 256 : Nat) : Int)) (rd_conv T45 T5 rfl) (conv64to8)) trivial rfl ?_
    refine o_rd (Reads.to (v' := .int .u8 ((UInt8.ofNat (y % 256 ||| 128)).toNat : Int)) (rd_or rfl rfl) (or8u (Nat.mod_lt _ (by omega)))) trivial rfl ?_
    refine o_ef trivial (ef_buildSlice Tryd.underlying32 S5 rfl rfl rfl h rfl (fun t w h => ?_))
    replace h := Sat.conv (B := pt t (.cells #[.int .u8 ((UInt8.ofNat (y % 256 ||| 128)).toNat : Int)] 5)) 0 h rfl (fun _ x => x)
    refine o_ef trivial (ef_append Tryd.underlying32 N32 S5 rfl 1 rfl rfl h rfl (Src.slice (h.rowPt 0 rfl) rfl rfl) (bcells_len acc) rfl (by omega) (by omega) rfl (fun a3 w h => ?_))
    rw [← bcells_snoc] at h
    refine o_rd (rd_assign rfl) trivial rfl ?_
    refine runO_nil (run_region_lit ?_)
    refine o_rd (rd_move rfl) trivial rfl ?_
    refine o_rd (Reads.to (v' := .int .u64 ((y / 128 : Nat) : Int)) (rd_shr rfl rfl (by omega)) (shr64 (n := 7) rfl (by decide))) trivial rfl ?_
    refine o_rd (rd_assign rfl) trivial rfl ?_
    refine runO_nil (run_inBlock ?_)
    -- round of loop 0 path L0.c1t. L ['t', 'o', 'B']
    exact run_fewer (sub_cons rfl (sub_cons rfl (sub_nil _))) (ih (y / 128, acc ++ [UInt8.ofNat (y % 256 ||| 128)], a3) w ⟨(Sat.out 0 h), by omega, by rw [← hacc, putU_go (show 128 ≤ y by omega)]; simp⟩ (by simp only []; omega))
  · refine runO_nil (run_cond_false rfl (run_exit rfl (run_seq (run_region_lit ?_))))
    refine o_rd (rd_move rfl) trivial rfl ?_
    refine o_rd (rd_move rfl) trivial rfl ?_
    refine o_rd (Reads.to (v' := .int .u8 ((UInt8.ofNat y).toNat : Int)) (rd_conv T45 T5 rfl) (u8o (by omega))) trivial rfl ?_
    refine o_ef trivial (ef_buildSlice Tryd.underlying32 S5 rfl rfl rfl h rfl (fun t w h => ?_))
    replace h := Sat.conv (B := pt t (.cells #[.int .u8 ((UInt8.ofNat y).toNat : Int)] 5)) 0 h rfl (fun _ x => x)
    refine o_ef trivial (ef_append Tryd.underlying32 N32 S5 rfl 1 rfl rfl h rfl (Src.slice (h.rowPt 0 rfl) rfl rfl) (bcells_len acc) rfl (by omega) (by omega) rfl (fun a5 w h => ?_))
    rw [← bcells_snoc] at h
    refine o_rd (rd_assign rfl) trivial rfl ?_
    refine runO_nil ?_
    refine run_ret Tryd.func52 (RV.tmp rfl RV.nil) ?_
    -- ret 0 path L0.c1f. L ['t', 'o', 'B']
    have hfin : acc ++ [UInt8.ofNat y] = bs ++ putU x := by rw [← hacc, putU_end (by omega)]
    rw [hfin] at h
    obtain ⟨a6, n6, c6, rfl, _⟩ := Sat.ownRow 1 h rfl
    exact ⟨a6, n6, c6, rfl, (Sat.out 0 h)⟩

theorem oc_PutWord {B : Hp} {a : Option Addr} {cap : Nat} {bs : List UInt8} {x : Nat} {w : World} {R : List Hp} (hB : ∀ g, B g → RowH g a (bcells bs)) (hbd : bs.length ≤ 100000000) (hx : x < 18446744073709551616) (h : Sat w (B :: R)) :
    FnC Tryd.prog 49 [.slice a bs.length cap, .int .u64 (x : Nat)] w fun v w' => ∃ a' n' c', v = .slice a' n' c' ∧ Sat w' (OwnS 5 1 (.slice a' n' c') (bcells (bs ++ putW x)) :: B :: R) := by
  refine fnC_of_run Tryd.func49 rfl Tryd.ntmps49 (Nat.le_of_ble_eq_true rfl) (fun cs => ?_)
  refine run_seq (run_region_lit ?_)
  refine o_rd (rd_assign rfl) trivial rfl ?_
  refine runO_nil (run_seq (run_region_lit ?_))
  refine o_rd (rd_move rfl) trivial rfl ?_
  refine o_ef trivial (ef_call (Tryd.call30) rfl rfl ?_)
  refine FnC.mono (clone_bytes hB (by omega) h) ?_
  rintro _ w ⟨a2, n2, c2, rfl, h⟩
  obtain ⟨hn2, hc2, hm2⟩ := own_len 0 h rfl
  subst hn2
  refine o_rd (rd_assign rfl) trivial rfl ?_
  refine runO_nil (run_seq (run_seq (run_region_lit ?_)))
  refine o_rd (rd_assign rfl) trivial rfl ?_
  refine runO_nil (run_block ?_)
  refine run_loop (σ := Nat × List UInt8 × Value) (fun (k, acc, s) => [(1, .int .u64 (x : Nat)), (5, s), (6, .int .i64 (56 - 8 * (k : Int)))]) (fun (k, acc, s) w => Sat w (OwnS 5 1 s (bcells acc) :: B :: R) ∧ k ≤ 8 ∧ acc = bs ++ (putW x).take k) (fun (k, acc, s) => 8 - k) (0, bs, .slice a2 bs.length c2) ?_ (sub_cons rfl (sub_cons rfl (sub_cons rfl (sub_nil _)))) ?_
  · exact ⟨h, by omega, by simp⟩
  clear h
  rintro ⟨k, acc, s⟩ w ⟨h, hk, hacc⟩ ih
  have hlen : acc.length ≤ bs.length + 8 := by
    have := congrArg List.length hacc
    simp only [List.length_append, List.length_take, putW_len] at this
    omega
  refine run_seq (run_seq (run_region_lit ?_))
  refine o_rd (rd_move rfl) trivial rfl ?_
  refine o_tD (rd_geq rfl rfl) trivial rfl (fun c1 => ?_) (fun c1 => ?_)
  · refine runO_nil (run_cond_true rfl (run_skip (run_seq (run_block (run_region_lit ?_)))))
    refine o_rd (rd_move rfl) trivial rfl ?_
    refine o_rd (rd_move rfl) trivial rfl ?_
    refine o_rd (rd_move rfl) trivial rfl ?_
    refine o_rd (Reads.to (v' := .int .u64 ((x / 2 ^ (56 - 8 * k) : Nat) : Int)) (rd_shr rfl rfl (by omega)) (shr64 (by omega) (by omega))) trivial rfl ?_
    refine o_rd (Reads.to (v' := .int .u8 ((UInt8.ofNat (x / 2 ^ (56 - 8 * k) % 256)).toNat : Int)) (rd_conv T45 T5 rfl) (u8v)) trivial rfl ?_
    refine o_ef trivial (ef_buildSlice Tryd.underlying32 S5 rfl rfl rfl h rfl (fun t w h => ?_))
    replace h := Sat.conv (B := pt t (.cells #[.int .u8 ((UInt8.ofNat (x / 2 ^ (56 - 8 * k) % 256)).toNat : Int)] 5)) 0 h rfl (fun _ x => x)
    refine o_ef trivial (ef_append Tryd.underlying32 N32 S5 rfl 1 rfl rfl h rfl (Src.slice (h.rowPt 0 rfl) rfl rfl) (bcells_len acc) rfl (by omega) (by omega) rfl (fun a5 w h => ?_))
    rw [← bcells_snoc] at h
    refine o_rd (rd_assign rfl) trivial rfl ?_
    refine runO_nil (run_inBlock (run_region_lit ?_))
    refine o_rd (rd_move rfl) trivial rfl ?_
    refine o_rd (Reads.to (v' := .int .i64 (56 - 8 * ((k + 1 : Nat) : Int))) (rd_subi rfl rfl (by constructor <;> omega)) (by rw [show (56 - 8 * ((k + 1 : Nat) : Int)) = 56 - 8 * (k : Int) - 8 by omega])) trivial rfl ?_
    refine o_rd (rd_assign rfl) trivial rfl ?_
    refine runO_nil ?_
    -- round of loop 0 path L0.c1t. L ['t', 'o', 'B']
    exact run_fewer (sub_cons rfl (sub_cons rfl (sub_cons rfl (sub_nil _)))) (ih (k + 1, acc ++ [UInt8.ofNat (x / 2 ^ (56 - 8 * k) % 256)], a5) w ⟨(Sat.out 0 h), by omega, by rw [hacc, List.take_add_one, putW_at (by omega), List.append_assoc]; rfl⟩ (by simp only []; omega))
  · refine runO_nil (run_cond_false rfl (run_exit rfl (run_seq (run_region_lit ?_))))
    refine o_rd (rd_move rfl) trivial rfl ?_
    refine o_rd (rd_assign rfl) trivial rfl ?_
    refine runO_nil ?_
    refine run_ret Tryd.func49 (RV.tmp rfl RV.nil) ?_
    -- ret 0 path L0.c1f. L ['o', 'B']
    have hfin : acc = bs ++ putW x := by rw [hacc, List.take_of_length_le (by rw [putW_len]; omega)]
    rw [hfin] at h
    obtain ⟨a6, n6, c6, rfl, _⟩ := Sat.ownRow 0 h rfl
    exact ⟨a6, n6, c6, rfl, h⟩

theorem oc_PutText {B : Hp} {a : Option Addr} {cap : Nat} {bs : List UInt8} {s : ByteArray} {w : World} {R : List Hp} (hB : ∀ g, B g → RowH g a (bcells bs)) (hbd : bs.length ≤ 100000000) (hx : s.size ≤ 100000000) (h : Sat w (B :: R)) :
    FnC Tryd.prog 50 [.slice a bs.length cap, .string s] w fun v w' => ∃ a' n' c', v = .slice a' n' c' ∧ Sat w' (OwnS 5 1 (.slice a' n' c') (bcells (bs ++ putT s)) :: B :: R) := by
  refine fnC_of_run Tryd.func50 rfl Tryd.ntmps50 (Nat.le_of_ble_eq_true rfl) (fun cs => ?_)
  refine run_seq (run_region_lit ?_)
  refine o_rd (rd_assign rfl) trivial rfl ?_
  refine runO_nil (run_seq (run_region_lit ?_))
  refine o_rd (rd_move rfl) trivial rfl ?_
  refine o_rd (rd_move rfl) trivial rfl ?_
  refine o_rd (rd_lenS T9 rfl) trivial rfl ?_
  refine o_rd (Reads.to (v' := .int .u64 (s.size : Int)) (rd_conv T3 T45 rfl) (convU64 (by omega))) trivial rfl ?_
  refine o_ef trivial (ef_call (Tryd.call52) rfl rfl ?_)
  refine FnC.mono (oc_PutUint hB hbd (show s.size < 18446744073709551616 by omega) h) ?_
  rintro _ w ⟨a2, n2, c2, rfl, h⟩
  obtain ⟨hn2, hc2, hm2⟩ := own_len 0 h rfl
  subst hn2
  have hl2 := putU_len10 (x := s.size) (by omega)
  refine o_rd (rd_move rfl) trivial rfl ?_
  refine o_ef trivial (ef_append Tryd.underlying32 N9 S5 rfl 0 rfl rfl h rfl (Src.string s) (bcells_len _) rfl (by simp only [List.length_append]; omega) (by simp only [List.length_append]; omega) rfl (fun a1 w h => ?_))
  rw [← bcells_append, List.append_assoc] at h
  refine o_rd (rd_assign rfl) trivial rfl ?_
  refine runO_nil ?_
  refine run_ret Tryd.func50 (RV.tmp rfl RV.nil) ?_
  -- ret 0 path  L ['o', 'B']
  obtain ⟨a6, n6, c6, rfl, _⟩ := Sat.ownRow 0 h rfl
  exact ⟨a6, n6, c6, rfl, h⟩

end Go.Proofs.YtmhpgdpegneejaaDoor
