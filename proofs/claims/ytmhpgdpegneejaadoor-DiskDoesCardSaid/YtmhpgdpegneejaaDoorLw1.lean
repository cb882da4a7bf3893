import Derived.Test.YtmhpgdpegneejaaDoorNm1
set_option maxRecDepth 100000
set_option linter.unusedVariables false
set_option linter.unusedSimpArgs false
namespace Go.Proofs.YtmhpgdpegneejaaDoor
open Go Go.Proofs Go.Proofs.Slx
theorem bytes_Equal {a1 a2 : Option Addr} {n1 n2 c1 c2 : Nat} {x y : List UInt8} {w0 : World} (hn1 : n1 = x.length) (hn2 : n2 = y.length) (h1 : RowW w0 a1 (bcells x)) (h2 : RowW w0 a2 (bcells y))  :
    FnC Tryd.prog 36 [.slice a1 n1 c1, .slice a2 n2 c2] w0 fun v w' => v = .bool (decide (x = y)) ∧ w' = w0 := by
  refine fnC_of_run Tryd.func36 rfl Tryd.ntmps36 (Nat.le_of_ble_eq_true rfl) (fun cs => ?_)
  refine run_seq (run_region_lit ?_)
  refine o_rd (rd_assign rfl) trivial rfl ?_
  refine runO_nil (run_seq (run_region_lit ?_))
  refine o_rd (rd_move rfl) trivial rfl ?_
  refine o_ef trivial (ef_convBS Tryd.underlying32 Tryd.underlying5 Tryd.underlying9 rfl hn1 h1 rfl ?_)
  refine o_rd (rd_move rfl) trivial rfl ?_
  refine o_ef trivial (ef_convBS Tryd.underlying32 Tryd.underlying5 Tryd.underlying9 rfl hn2 h2 rfl ?_)
  refine o_rd (rd_eqlS rfl rfl) trivial rfl ?_
  refine o_rd (rd_assign rfl) trivial rfl ?_
  refine runO_nil ?_
  refine run_ret Tryd.func36 (RV.tmp rfl RV.nil) ?_
  -- ret 0 path  L []
  exact ⟨congrArg Value.bool (decide_eq_decide.2 bstr_inj), rfl⟩

theorem law_room {B : Hp} {a : Option Addr} {cap : Nat} {bs : List UInt8} {w : World} {R : List Hp} (hB : ∀ g, B g → RowH g a (bcells bs)) (hbd : bs.length ≤ 140737488351232) (h : Sat w (B :: R)) :
    FnC Tryd.prog 35 [.slice a bs.length cap] w fun v w' => ∃ a' n c, v = .slice a' n c ∧ Sat w' (OwnS 5 1 (.slice a' n c) (bcells (bs ++ [7, 7, 7])) :: B :: R) := by
  refine fnC_of_run Tryd.func35 rfl Tryd.ntmps35 (Nat.le_of_ble_eq_true rfl) (fun cs => ?_)
  refine run_seq (run_region_lit ?_)
  refine o_rd (rd_assign rfl) trivial rfl ?_
  refine runO_nil (run_seq (run_region_lit ?_))
  refine o_rd (rd_move rfl) trivial rfl ?_
  refine o_rd (rd_len (u := 0) T32 rfl) trivial rfl ?_
  refine o_rd (rd_addi rfl rfl (by constructor <;> omega)) trivial rfl ?_
  refine o_ef trivial (ef_makeSliceO Tryd.underlying32 S5 rfl rfl (by omega) (by omega) (by omega) (by omega) h rfl (fun o w h => ?_))
  refine o_rd (rd_move rfl) trivial rfl ?_
  refine o_ef trivial (ef_append Tryd.underlying32 N32 S5 rfl 0 rfl rfl h rfl (Src.slice (h.rowOf 1 rfl hB) (bcells_len _) (ones_bcells _)) (q := 0) rfl rfl (by omega) (by omega) rfl (fun a1 w h => ?_))
  obtain ⟨a6, n6, c6, rfl, _⟩ := Sat.ownRow 0 h rfl
  refine o_rd (rd_assign rfl) trivial rfl ?_
  refine runO_nil (run_seq (run_region_lit ?_))
  refine o_rd (rd_move rfl) trivial rfl ?_
  refine o_ef trivial (ef_buildSlice Tryd.underlying32 S5 rfl rfl rfl h rfl (fun s w h => ?_))
  refine o_ef trivial (ef_append Tryd.underlying32 N32 S5 rfl 1 rfl rfl h rfl (Src.slice (h.rowPt 0 rfl) rfl rfl) (bcells_len bs) rfl (by omega) (by omega) rfl (fun a2 w h => ?_))
  obtain ⟨a7, n7, c7, rfl, _⟩ := Sat.ownRow 1 h rfl
  refine o_rd (rd_assign rfl) trivial rfl ?_
  refine runO_nil ?_
  refine run_ret Tryd.func35 (RV.tmp rfl RV.nil) ?_
  -- ret 0 path  L ['s', 'o', 'B']
  rw [bcells_append]
  exact ⟨a7, n7, c7, rfl, (Sat.out 0 h)⟩

theorem law_wakes {w : World} {R : List Hp} (h : Sat w R) :
    FnC Tryd.prog 7 [] w fun v w' => v = .bool true ∧ Sat w' R := by
  refine fnC_of_run Tryd.func7 rfl Tryd.ntmps7 (Nat.le_of_ble_eq_true rfl) (fun cs => ?_)
  refine run_seq (run_region_lit ?_)
  refine o_rd (rd_assign rfl) trivial rfl ?_
  refine runO_nil (run_seq (run_region_lit ?_))
  refine o_ef trivial (ef_call (Tryd.call8) rfl rfl ?_)
  refine FnC.mono (disk_New h) ?_
  rintro _ w ⟨b, rfl, h⟩
  refine o_rd (rd_assign rfl) trivial rfl ?_
  refine runO_nil (run_seq (run_region_lit ?_))
  refine o_rd (rd_move rfl) trivial rfl ?_
  refine o_ef trivial (ef_buildSlice Tryd.underlying32 S5 rfl rfl rfl h rfl (fun s w h => ?_))
  refine o_ef trivial (ef_call (Tryd.call28) rfl rfl ?_)
  refine FnC.mono (disk_Append (name := nmA) (bs := [1, 2]) (fun g x => row_pt x) (by decide) (by decide) (Sat.bring 1 h)) ?_
  rintro v9 w ⟨e9, h⟩
  rw [wake_append] at e9 h
  subst e9
  refine o_rd (rd_assign rfl) trivial rfl ?_
  refine runO_nil (run_seq (run_region_lit ?_))
  refine o_rd (rd_move rfl) trivial rfl ?_
  refine o_ef trivial (ef_call (Tryd.call29) rfl rfl ?_)
  refine FnC.mono (disk_Read (D := ⟨[(nmA, [1, 2])], 1, 0, false⟩) (name := nmA) wake_ok h) ?_
  rintro v9 w ⟨a5, n5, c5, e9, h⟩
  rw [wake_get] at e9 h
  simp only [Option.isSome_some, if_true, Option.getD_some] at e9 h
  subst e9
  obtain ⟨_, _, _, e5, hl5, _⟩ := Sat.ownRow 0 h rfl
  cases e5
  have e6 : n5 = 2 := by rw [bcells_len] at hl5; simp at hl5; omega
  subst e6
  obtain ⟨bb, C, fr, ea, rok, h⟩ := h.ownOpen 0 rfl (by omega)
  subst ea
  refine o_rd (rd_move rfl) trivial rfl ?_
  refine o_rd (rd_extract rfl rfl) trivial rfl ?_
  refine o_rd (rd_extract rfl rfl) trivial rfl ?_
  refine o_rd (rd_assign rfl) trivial rfl ?_
  refine o_rd (rd_assign rfl) trivial rfl ?_
  refine runO_nil (run_seq (run_region_lit ?_))
  refine o_rd (rd_move rfl) trivial rfl ?_
  refine o_rd (rd_eql rfl rfl) trivial rfl ?_
  refine o_rd (rd_move rfl) trivial rfl ?_
  refine o_rd (rd_move rfl) rfl rfl ?_
  refine o_rd (rd_eql rfl rfl) rfl rfl ?_
  refine o_rd (rd_pick_t rfl rfl) trivial rfl ?_
  refine o_rd (rd_move rfl) trivial rfl ?_
  refine o_rd (rd_move rfl) rfl rfl ?_
  refine o_rd (rd_len (u := 0) T32 rfl) rfl rfl ?_
  refine o_rd (Reads.to (v' := .bool true) (rd_eql rfl rfl) (rfl)) rfl rfl ?_
  refine o_rd (rd_pick_t rfl rfl) trivial rfl ?_
  refine o_rd (rd_move rfl) trivial rfl ?_
  refine o_rd (rd_move rfl) rfl rfl ?_
  refine o_rd (rd_idx T32 S5 rfl rfl (by omega) (by omega)) rfl rfl ?_
  refine o_ld rfl (h.at_ 0 rfl) T5 rfl ((rok.get 1 (by decide)).trans rfl) rfl rfl ?_
  refine o_rd (Reads.to (v' := .bool true) (rd_eql rfl rfl) (rfl)) rfl rfl ?_
  refine o_rd (rd_pick_t rfl rfl) trivial rfl ?_
  refine o_rd (rd_move rfl) trivial rfl ?_
  refine o_rd (rd_move rfl) rfl rfl ?_
  refine o_ef rfl (ef_call (Tryd.call20) rfl rfl ?_)
  refine FnC.mono (disk_Writes (Sat.bring 1 h)) ?_
  rintro _ w ⟨rfl, h⟩
  refine o_rd (Reads.to (v' := .bool true) (rd_eql rfl rfl) (rfl)) rfl rfl ?_
  refine o_rd (rd_pick_t rfl rfl) trivial rfl ?_
  refine o_rd (rd_assign rfl) trivial rfl ?_
  refine runO_nil ?_
  refine run_ret Tryd.func7 (RV.tmp rfl RV.nil) ?_
  -- ret 0 path  L ['D', 'o', 's']
  exact ⟨rfl, (Sat.out 0 (Sat.out 1 (Sat.out 2 h)))⟩

theorem law_script {O : Hp} {a : Option Addr} {c : Nat} {ops : List OpV} {w : World} {R : List Hp} (hO : ∀ g, O g → RowH g a (ocells ops)) (hops : ∀ o, o ∈ ops → OkOp O o) (hc : ops.length ≤ c) (hcm : c ≤ 9223372036854775807) (h : Sat w (O :: R)) :
    FnC Tryd.prog 10 [.slice a ops.length c] w fun v w' => ∃ a' c', v = .slice a' ((ops.take 60).map cutOp).length c' ∧ Sat w' (OwnS 34 5 (.slice a' ((ops.take 60).map cutOp).length c') (ocells ((ops.take 60).map cutOp)) :: O :: R) := by
  refine fnC_of_run Tryd.func10 rfl Tryd.ntmps10 (Nat.le_of_ble_eq_true rfl) (fun cs => ?_)
  refine run_seq (run_region_lit ?_)
  refine o_rd (rd_assign rfl) trivial rfl ?_
  refine runO_nil (run_seq (run_region_lit ?_))
  refine o_rd (rd_assign rfl) trivial rfl ?_
  refine runO_nil (run_seq (run_seq (run_region_lit ?_)))
  refine o_rd (rd_move rfl) trivial rfl ?_
  refine o_rd (rd_len (u := 0) T22 rfl) trivial rfl ?_
  refine o_rd (rd_move rfl) trivial rfl ?_
  refine runO_nil (run_block ?_)
  refine run_loop (σ := Nat × List OpV × Option Addr × Nat) (fun (i, hs, a3, k3) => [(3, .slice a3 hs.length k3), (6, .slice a ops.length c), (7, .int .i64 ops.length), (8, .int .i64 (i : Nat))]) (fun (i, hs, a3, k3) w => Sat w (OwnS 34 5 (.slice a3 hs.length k3) (ocells hs) :: O :: R) ∧ i ≤ ops.length ∧ i ≤ 60 ∧ hs = (ops.take i).map cutOp ∧ hs.length ≤ i) (fun (i, hs, a3, k3) => ops.length - i) (0, [], none, 0) ?_ (sub_cons rfl (sub_cons rfl (sub_cons rfl (sub_cons rfl (sub_nil _))))) ?_
  · exact ⟨Sat.lone (own_none none) h, Nat.zero_le _, Nat.zero_le _, by simp, Nat.le_refl _⟩
  clear h
  rintro ⟨i, hs, a3, k3⟩ w ⟨h, hi, hi60, hf, hil⟩ ih
  refine run_seq (run_region_lit ?_)
  refine o_tD (rd_lss rfl rfl) trivial rfl (fun c1 => ?_) (fun c1 => ?_)
  · refine runO_nil (run_seq (run_cond_true rfl (run_skip (run_seq (run_block (run_seq ?_))))))
    obtain ⟨bb, p, C, E, fr, o, ea, hoi, hb, hcp⟩ := op_at 1 h rfl hO (i := i) (by omega)
    subst ea
    have hok := hops o (List.mem_of_getElem? hoi)
    have hk1 := hok.len
    have hk2 := hok.cap
    refine run_region_lit ?_
    refine o_rd (rd_move rfl) trivial rfl ?_
    refine o_rd (rd_idx T22 S34 rfl rfl (by omega) (by omega)) trivial rfl ?_
    refine o_ldG rfl hb G34 hcp trivial rfl ?_
    refine o_ef trivial (ef_alloc S34 rfl h (fun t w h => ?_))
    refine o_rd (rd_assign rfl) trivial rfl ?_
    refine o_ef trivial (ef_store S34 0 rfl rfl h rfl rfl rfl (Nat.le_of_ble_eq_true rfl) rfl (fun w h => ?_))
    replace h := Sat.conv (B := pt t (.cells #[.int .i64 o.kind, .string o.name, .string o.to, .int .i64 o.n, .slice o.ba o.bn o.bcap] 34)) 0 h rfl (fun _ x => x)
    refine runO_nil (run_seq (run_seq (run_region_lit ?_)))
    refine o_rd (rd_move rfl) trivial rfl ?_
    refine o_tD (rd_eql rfl rfl) trivial rfl (fun c2 => ?_) (fun c2 => ?_)
    · refine runO_nil (run_cond_true rfl (run_exit rfl (run_seq (run_region_lit ?_))))
      refine o_rd (rd_move rfl) trivial rfl ?_
      refine o_rd (rd_assign rfl) trivial rfl ?_
      refine runO_nil ?_
      refine run_ret Tryd.func10 (RV.tmp rfl RV.nil) ?_
      -- ret 0 path L0.c1t.c2t. L ['t', 'hs', 'O']
      have e : i = 60 := by omega
      subst e
      subst hf
      exact ⟨a3, k3, rfl, (Sat.out 0 h)⟩
    · refine runO_nil (run_cond_false rfl (run_skip (run_seq (run_seq (run_region_lit ?_)))))
      refine o_rd (rd_fieldA F34_4 S32 rfl) trivial rfl ?_
      refine o_ld rfl (h.at_ 0 rfl) T32 rfl rfl trivial rfl ?_
      refine o_rd (rd_len (u := 0) T32 rfl) trivial rfl ?_
      refine o_tD (rd_leq rfl rfl) trivial rfl (fun c3 => ?_) (fun c3 => ?_)
      · have hle : o.bytes.length ≤ 4194304 := by omega
        refine runO_nil (run_cond_true rfl (run_region_lit ?_))
        refine o_rd (rd_fieldA F34_4 S32 rfl) trivial rfl ?_
        refine o_ld rfl (h.at_ 0 rfl) T32 rfl rfl trivial rfl ?_
        refine o_rd (rd_fieldA F34_4 S32 rfl) trivial rfl ?_
        refine o_ld rfl (h.at_ 0 rfl) T32 rfl rfl trivial rfl ?_
        refine o_rd (rd_len (u := 0) T32 rfl) trivial rfl ?_
        refine o_rd (rd_min rfl rfl) trivial rfl ?_
        refine o_rd (Reads.to (v' := .slice o.ba (o.bytes.take 300).length o.bcap) (rd_sliceH T32 S5 rfl rfl (by omega) (by omega)) (by simp only [List.length_take, Value.slice.injEq, true_and, and_true]; omega)) trivial rfl ?_
        refine o_rd (rd_fieldA F34_4 S32 rfl) trivial rfl ?_
        refine o_ef trivial (ef_store S32 0 rfl rfl h rfl rfl rfl (Nat.le_of_ble_eq_true rfl) rfl (fun w h => ?_))
        refine runO_nil (run_region_lit ?_)
        refine o_rd (rd_move rfl) trivial rfl ?_
        refine o_ldG rfl (h.at_ 0 rfl) G34 rfl trivial rfl ?_
        refine o_ef trivial (ef_buildSlice Tryd.underlying22 S34 rfl rfl rfl h rfl (fun s w h => ?_))
        refine o_ef trivial (ef_append Tryd.underlying22 N22 S34 rfl 2 rfl rfl h rfl (Src.slice (h.rowPt 0 rfl) rfl rfl) (ocells_len hs) rfl (by omega) (by omega) rfl (fun a8 w h => ?_))
        obtain ⟨a6, n6, c6, rfl, hl6, _⟩ := Sat.ownRow 2 h rfl
        refine o_rd (rd_assign rfl) trivial rfl ?_
        refine runO_nil (run_inBlock (run_region_lit ?_))
        refine o_rd (rd_addi rfl rfl (by constructor <;> omega)) trivial rfl ?_
        refine o_rd (rd_move rfl) trivial rfl ?_
        refine runO_nil ?_
        -- round of loop 0 path L0.c1t.c2f.c3t. L ['s', 't', 'hs', 'O']
        have e6 : n6 = (hs ++ [cutOp o]).length := by
          have e7 : (ocells hs ++ ocell (cutOp o)).length = n6 * 5 := by rw [cutOp_le hle]; exact hl6
          rw [← ocells_snoc, ocells_len] at e7
          omega
        subst e6
        exact run_fewer (sub_cons rfl (sub_cons rfl (sub_cons rfl (sub_cons rfl (sub_nil _))))) (ih (i + 1, hs ++ [cutOp o], a6, c6) w ⟨by simp only [ocells_snoc]; rw [congrArg ocell (cutOp_le hle)]; exact (Sat.out 0 (Sat.out 1 h)), by omega, by omega, by rw [hf, map_snoc cutOp hoi], by simp only [List.length_append, List.length_cons, List.length_nil]; omega⟩ (by simp only []; omega))
      · have hle : ¬o.bytes.length ≤ 4194304 := by omega
        refine runO_nil (run_cond_false rfl (run_skip (run_region_lit ?_)))
        refine o_rd (rd_move rfl) trivial rfl ?_
        refine o_ldG rfl (h.at_ 0 rfl) G34 rfl trivial rfl ?_
        refine o_ef trivial (ef_buildSlice Tryd.underlying22 S34 rfl rfl rfl h rfl (fun s w h => ?_))
        refine o_ef trivial (ef_append Tryd.underlying22 N22 S34 rfl 2 rfl rfl h rfl (Src.slice (h.rowPt 0 rfl) rfl rfl) (ocells_len hs) rfl (by omega) (by omega) rfl (fun a8 w h => ?_))
        obtain ⟨a6, n6, c6, rfl, hl6, _⟩ := Sat.ownRow 2 h rfl
        refine o_rd (rd_assign rfl) trivial rfl ?_
        refine runO_nil (run_inBlock (run_region_lit ?_))
        refine o_rd (rd_addi rfl rfl (by constructor <;> omega)) trivial rfl ?_
        refine o_rd (rd_move rfl) trivial rfl ?_
        refine runO_nil ?_
        -- round of loop 0 path L0.c1t.c2f.c3f. L ['s', 't', 'hs', 'O']
        have e6 : n6 = (hs ++ [cutOp o]).length := by
          have e7 : (ocells hs ++ ocell (cutOp o)).length = n6 * 5 := by rw [cutOp_gt hle]; exact hl6
          rw [← ocells_snoc, ocells_len] at e7
          omega
        subst e6
        exact run_fewer (sub_cons rfl (sub_cons rfl (sub_cons rfl (sub_cons rfl (sub_nil _))))) (ih (i + 1, hs ++ [cutOp o], a6, c6) w ⟨by simp only [ocells_snoc]; rw [congrArg ocell (cutOp_gt hle)]; exact (Sat.out 0 (Sat.out 1 h)), by omega, by omega, by rw [hf, map_snoc cutOp hoi], by simp only [List.length_append, List.length_cons, List.length_nil]; omega⟩ (by simp only []; omega))
  · refine runO_nil (run_seq (run_cond_false rfl (run_exit rfl (run_seq (run_region_lit ?_)))))
    refine o_rd (rd_move rfl) trivial rfl ?_
    refine o_rd (rd_assign rfl) trivial rfl ?_
    refine runO_nil ?_
    refine run_ret Tryd.func10 (RV.tmp rfl RV.nil) ?_
    -- ret 1 path L0.c1f. L ['hs', 'O']
    have e : hs = (ops.take 60).map cutOp := by rw [hf, List.take_of_length_le (by omega), List.take_of_length_le (by omega)]
    subst e
    exact ⟨a3, k3, rfl, h⟩

theorem law_file_none {b b2 : Nat} {D W : DiskV} {name : ByteArray} {w : World} {R : List Hp} (r : RelD D W) (hf : kget D.files name = none) (h : Sat w (diskR b D :: refR b2 W :: R)) :
    FnC Tryd.prog 33 [.agg #[.pointer (some ⟨b, 0, none⟩), .pointer (some ⟨b2, 0, none⟩)], .string name] w fun v w' => v = .bool true ∧ Sat w' (diskR b D :: refR b2 W :: R) := by
  refine fnC_of_run Tryd.func33 rfl Tryd.ntmps33 (Nat.le_of_ble_eq_true rfl) (fun cs => ?_)
  refine run_seq (run_region_lit ?_)
  refine o_ef trivial (ef_box rfl rfl h (fun t w h => ?_))
  replace h := Sat.conv (B := pt t (.cells #[.pointer (some ⟨b, 0, none⟩), .pointer (some ⟨b2, 0, none⟩)] 29)) 0 h rfl (fun _ x => x)
  refine o_rd (rd_assign rfl) trivial rfl ?_
  refine runO_nil (run_seq (run_region_lit ?_))
  refine o_rd (rd_fieldA F29_0 S24 rfl) trivial rfl ?_
  refine o_ld rfl (h.at_ 0 rfl) T24 rfl rfl trivial rfl ?_
  refine o_rd (rd_move rfl) trivial rfl ?_
  refine o_ef trivial (ef_call (Tryd.call29) rfl rfl ?_)
  refine FnC.mono (disk_Read (r.small name) (Sat.bring 1 h)) ?_
  rintro v9 w ⟨a5, n5, c5, e9, h⟩
  rw [hf] at e9 h
  simp only [Option.isSome_none, Option.isSome_some, Bool.false_eq_true, if_true, if_false, Option.getD_none, Option.getD_some, List.length_nil] at e9 h
  subst e9
  obtain ⟨_, _, _, e5, hl5, _⟩ := Sat.ownRow 0 h rfl
  cases e5
  rw [bcells_len] at hl5
  have e6 : n5 = 0 := by simp only [List.length_nil] at hl5; omega
  subst e6
  refine o_rd (rd_move rfl) trivial rfl ?_
  refine o_rd (rd_extract rfl rfl) trivial rfl ?_
  refine o_rd (rd_extract rfl rfl) trivial rfl ?_
  refine o_rd (rd_assign rfl) trivial rfl ?_
  refine o_rd (rd_assign rfl) trivial rfl ?_
  refine runO_nil (run_seq (run_region_lit ?_))
  refine o_rd (rd_fieldA F29_0 S24 rfl) trivial rfl ?_
  refine o_ld rfl (h.at_ 2 rfl) T24 rfl rfl trivial rfl ?_
  refine o_rd (rd_move rfl) trivial rfl ?_
  refine o_ef trivial (ef_call (Tryd.call64) rfl rfl ?_)
  refine FnC.mono (disk_Size (Sat.bring 1 h)) ?_
  rintro v9 w ⟨e9, h⟩
  rw [hf] at e9
  simp only [Option.isSome_none, Option.isSome_some, Bool.false_eq_true, if_true, if_false, Option.getD_none, Option.getD_some, List.length_nil] at e9
  subst e9
  refine o_rd (rd_move rfl) trivial rfl ?_
  refine o_rd (rd_extract rfl rfl) trivial rfl ?_
  refine o_rd (rd_extract rfl rfl) trivial rfl ?_
  refine o_rd (rd_assign rfl) trivial rfl ?_
  refine o_rd (rd_assign rfl) trivial rfl ?_
  refine runO_nil (run_seq (run_region_lit ?_))
  refine o_rd (rd_fieldA F29_1 S26 rfl) trivial rfl ?_
  refine o_ld rfl (h.at_ 2 rfl) T26 rfl rfl trivial rfl ?_
  refine o_rd (rd_move rfl) trivial rfl ?_
  refine o_ef trivial (ef_call (Tryd.call65) rfl rfl ?_)
  refine FnC.mono (ref_Find (Sat.bring 3 h)) ?_
  rintro v9 w ⟨e9, h⟩
  rw [findI_none ((r.same name).symm.trans hf)] at e9
  subst e9
  refine o_rd (rd_assign rfl) trivial rfl ?_
  refine runO_nil (run_seq (run_seq (run_region_lit ?_)))
  refine o_rd (rd_move rfl) trivial rfl ?_
  refine o_rd (Reads.to (v' := .bool true) (rd_lss rfl rfl) (rfl)) trivial rfl ?_
  refine runO_nil (run_cond_true rfl (run_seq (run_region_lit ?_)))
  refine o_rd (rd_move rfl) trivial rfl ?_
  refine o_rd (rd_eql rfl rfl) trivial rfl ?_
  refine o_rd (rd_move rfl) trivial rfl ?_
  refine o_rd (rd_move rfl) rfl rfl ?_
  refine o_rd (rd_eql rfl rfl) rfl rfl ?_
  refine o_rd (rd_pick_t rfl rfl) trivial rfl ?_
  refine o_rd (rd_move rfl) trivial rfl ?_
  refine o_rd (rd_move rfl) rfl rfl ?_
  refine o_rd (rd_len (u := 0) T32 rfl) rfl rfl ?_
  refine o_rd (Reads.to (v' := .bool true) (rd_eql rfl rfl) (rfl)) rfl rfl ?_
  refine o_rd (rd_pick_t rfl rfl) trivial rfl ?_
  refine o_rd (rd_move rfl) trivial rfl ?_
  refine o_rd (rd_move rfl) rfl rfl ?_
  refine o_rd (Reads.to (v' := .bool true) (rd_eql rfl rfl) (rfl)) rfl rfl ?_
  refine o_rd (rd_pick_t rfl rfl) trivial rfl ?_
  refine o_rd (rd_assign rfl) trivial rfl ?_
  refine runO_nil ?_
  refine run_ret Tryd.func33 (RV.tmp rfl RV.nil) ?_
  -- ret 0 path  L ['W', 'D', 'o', 't']
  exact ⟨rfl, (Sat.bring 1 (Sat.out 2 (Sat.out 3 h)))⟩

theorem law_file_some {b b2 : Nat} {D W : DiskV} {name : ByteArray} {w : World} {R : List Hp} (r : RelD D W) {f : List UInt8} (hf : kget D.files name = some f) (h : Sat w (diskR b D :: refR b2 W :: R)) :
    FnC Tryd.prog 33 [.agg #[.pointer (some ⟨b, 0, none⟩), .pointer (some ⟨b2, 0, none⟩)], .string name] w fun v w' => v = .bool true ∧ Sat w' (diskR b D :: refR b2 W :: R) := by
  have hw : kget W.files name = some f := (r.same name).symm.trans hf
  have hfs := r.size name f hf
  refine fnC_of_run Tryd.func33 rfl Tryd.ntmps33 (Nat.le_of_ble_eq_true rfl) (fun cs => ?_)
  refine run_seq (run_region_lit ?_)
  refine o_ef trivial (ef_box rfl rfl h (fun t w h => ?_))
  replace h := Sat.conv (B := pt t (.cells #[.pointer (some ⟨b, 0, none⟩), .pointer (some ⟨b2, 0, none⟩)] 29)) 0 h rfl (fun _ x => x)
  refine o_rd (rd_assign rfl) trivial rfl ?_
  refine runO_nil (run_seq (run_region_lit ?_))
  refine o_rd (rd_fieldA F29_0 S24 rfl) trivial rfl ?_
  refine o_ld rfl (h.at_ 0 rfl) T24 rfl rfl trivial rfl ?_
  refine o_rd (rd_move rfl) trivial rfl ?_
  refine o_ef trivial (ef_call (Tryd.call29) rfl rfl ?_)
  refine FnC.mono (disk_Read (r.small name) (Sat.bring 1 h)) ?_
  rintro v9 w ⟨a5, n5, c5, e9, h⟩
  rw [hf] at e9 h
  simp only [Option.isSome_none, Option.isSome_some, Bool.false_eq_true, if_true, if_false, Option.getD_none, Option.getD_some, List.length_nil] at e9 h
  subst e9
  obtain ⟨_, _, _, e5, hl5, _⟩ := Sat.ownRow 0 h rfl
  cases e5
  rw [bcells_len] at hl5
  have hn5 : n5 = f.length := by omega
  subst hn5
  refine o_rd (rd_move rfl) trivial rfl ?_
  refine o_rd (rd_extract rfl rfl) trivial rfl ?_
  refine o_rd (rd_extract rfl rfl) trivial rfl ?_
  refine o_rd (rd_assign rfl) trivial rfl ?_
  refine o_rd (rd_assign rfl) trivial rfl ?_
  refine runO_nil (run_seq (run_region_lit ?_))
  refine o_rd (rd_fieldA F29_0 S24 rfl) trivial rfl ?_
  refine o_ld rfl (h.at_ 2 rfl) T24 rfl rfl trivial rfl ?_
  refine o_rd (rd_move rfl) trivial rfl ?_
  refine o_ef trivial (ef_call (Tryd.call64) rfl rfl ?_)
  refine FnC.mono (disk_Size (Sat.bring 1 h)) ?_
  rintro v9 w ⟨e9, h⟩
  rw [hf] at e9
  simp only [Option.isSome_none, Option.isSome_some, Bool.false_eq_true, if_true, if_false, Option.getD_none, Option.getD_some, List.length_nil] at e9
  subst e9
  refine o_rd (rd_move rfl) trivial rfl ?_
  refine o_rd (rd_extract rfl rfl) trivial rfl ?_
  refine o_rd (rd_extract rfl rfl) trivial rfl ?_
  refine o_rd (rd_assign rfl) trivial rfl ?_
  refine o_rd (rd_assign rfl) trivial rfl ?_
  refine runO_nil (run_seq (run_region_lit ?_))
  refine o_rd (rd_fieldA F29_1 S26 rfl) trivial rfl ?_
  refine o_ld rfl (h.at_ 2 rfl) T26 rfl rfl trivial rfl ?_
  refine o_rd (rd_move rfl) trivial rfl ?_
  refine o_ef trivial (ef_call (Tryd.call65) rfl rfl ?_)
  refine FnC.mono (ref_Find (Sat.bring 3 h)) ?_
  rintro v9 w ⟨e9, h⟩
  rw [(findI_some hw).1] at e9
  subst e9
  refine o_rd (rd_assign rfl) trivial rfl ?_
  refine runO_nil (run_seq (run_seq (run_region_lit ?_)))
  refine o_rd (rd_move rfl) trivial rfl ?_
  refine o_rd (Reads.to (v' := .bool false) (rd_lss rfl rfl) (by simp only [decide_eq_false_iff_not, Value.bool.injEq]; omega)) trivial rfl ?_
  refine runO_nil (run_cond_false rfl (run_skip (run_seq (run_seq ?_))))
  obtain ⟨a, n, c, gs, hcut, hn, hnc, hcm, hkg, h⟩ := refR_open h
  subst hn
  obtain ⟨bb, C, fr, fa, fl, fc, ea, hg, hpg, hpl, hfl, hfc, hfm, hb, hcb⟩ := file_of 1 2 h rfl rfl hw
  subst ea
  have hrf := vals_roww 2 h rfl hg hw
  obtain ⟨_, _, _, e5, _, _, _, hr5⟩ := Sat.ownRow 4 h rfl
  cases e5
  have hn5 : f.length = f.length := rfl
  refine run_region_lit ?_
  refine o_rd (rd_move rfl) trivial rfl ?_
  refine o_rd (rd_neq rfl rfl) trivial rfl ?_
  refine o_rd (rd_move rfl) trivial rfl ?_
  refine o_rd (rd_move rfl) rfl rfl ?_
  refine o_rd (rd_neq rfl rfl) rfl rfl ?_
  refine o_rd (rd_pick_f rfl rfl) trivial rfl ?_
  refine o_rd (rd_move rfl) trivial rfl ?_
  refine o_rd (rd_move rfl) rfl rfl ?_
  refine o_rd (rd_fieldA F29_1 S26 rfl) rfl rfl ?_
  refine o_ld rfl (h.at_ 5 rfl) T26 rfl rfl rfl rfl ?_
  refine o_rd (rd_nil rfl) rfl rfl ?_
  refine o_rd (rd_fieldA F73_0 S71 rfl) rfl rfl ?_
  refine o_ld rfl (h.at_ 0 rfl) T71 rfl rfl rfl rfl ?_
  refine o_rd (rd_move rfl) rfl rfl ?_
  refine o_rd (rd_idx T71 S76 rfl rfl (by omega) (by omega)) rfl rfl ?_
  refine o_rd (rd_fieldA F76_1 S32 rfl) rfl rfl ?_
  refine o_ld rfl hb T32 rfl hcb rfl rfl ?_
  refine o_ef rfl (ef_call (Tryd.call36) rfl rfl ?_)
  refine FnC.mono (bytes_Equal (x := f) (y := f) hn5 hfl hr5 hrf) ?_
  rintro v9 _ ⟨e9, rfl⟩
  rw [decide_eq_true rfl] at e9
  subst e9
  refine o_rd (rd_not rfl) rfl rfl ?_
  refine o_rd (rd_pick_f rfl rfl) trivial rfl ?_
  refine o_rd (rd_move rfl) trivial rfl ?_
  refine o_rd (rd_move rfl) rfl rfl ?_
  refine o_rd (rd_move rfl) rfl rfl ?_
  refine o_rd (rd_len (u := 0) T32 rfl) rfl rfl ?_
  refine o_rd (Reads.to (v' := .bool false) (rd_neq rfl rfl) (by simp)) rfl rfl ?_
  refine o_rd (rd_pick_f rfl rfl) trivial rfl ?_
  refine runO_nil ?_
  replace h := refR_close hcut h
  refine run_cond_false rfl (run_skip (run_seq (run_seq (run_region_lit ?_))))
  refine o_rd (rd_move rfl) trivial rfl ?_
  refine o_rd (rd_len (u := 0) T32 rfl) trivial rfl ?_
  refine o_rd (rd_move rfl) trivial rfl ?_
  refine runO_nil (run_block ?_)
  refine run_loop (σ := Nat × List UInt8) (fun (i, xs) => [(1, .string name), (2, .pointer (some ⟨t, 0, none⟩)), (5, .slice a5 f.length c5), (9, .int .i64 (pos W.files name : Nat)), (75, .int .i64 f.length), (76, .int .i64 (i : Nat))]) (fun (i, xs) w => Sat w (refR b2 W :: diskR b D :: OwnS 5 1 (.slice a5 f.length c5) (bcells xs) :: pt t (.cells #[.pointer (some ⟨b, 0, none⟩), .pointer (some ⟨b2, 0, none⟩)] 29) :: R) ∧ i ≤ f.length ∧ xs.length = f.length) (fun (i, xs) => f.length - i) (0, f) ?_ (sub_cons rfl (sub_cons rfl (sub_cons rfl (sub_cons rfl (sub_cons rfl (sub_cons rfl (sub_nil _))))))) ?_
  · exact ⟨h, Nat.zero_le _, rfl⟩
  clear h
  rintro ⟨i, xs⟩ w ⟨h, hi, hxl⟩ ih
  refine run_seq (run_region_lit ?_)
  refine o_tD (rd_lss rfl rfl) trivial rfl (fun c1 => ?_) (fun c1 => ?_)
  · refine runO_nil (run_seq (run_cond_true rfl (run_skip (run_seq (run_block (run_seq (run_region_lit ?_)))))))
    refine o_rd (rd_move rfl) trivial rfl ?_
    refine o_rd (rd_assign rfl) trivial rfl ?_
    refine runO_nil ?_
    obtain ⟨bb3, C3, fr3, ea3, rok, h⟩ := h.ownOpen 2 rfl (by omega)
    subst ea3
    refine run_region_lit ?_
    refine o_rd (rd_move rfl) trivial rfl ?_
    refine o_rd (rd_move rfl) trivial rfl ?_
    refine o_rd (rd_idx T32 S5 rfl rfl (by omega) (by omega)) trivial rfl ?_
    refine o_ef trivial (ef_store S5 2 rfl rfl h rfl rfl rfl (by have := rok.size; omega) (rok.fok _ _ (by omega)) (fun w h => ?_))
    refine runO_nil (run_inBlock (run_region_lit ?_))
    refine o_rd (rd_addi rfl rfl (by constructor <;> omega)) trivial rfl ?_
    refine o_rd (rd_move rfl) trivial rfl ?_
    refine runO_nil ?_
    -- round of loop 0 path L0.c1t. L ['W', 'D', 'o', 't']
    have rok2 := rok.set (0 + i * 1) (.int .u8 170)
    rw [show (bcells xs).set (0 + i * 1) (Value.int .u8 170) = bcells (xs.set i 170) by rw [Nat.zero_add, Nat.mul_one]; exact (bcells_set xs i 170).symm] at rok2
    replace h := h.ownClose 2 rfl rok2
    exact run_fewer (sub_cons rfl (sub_cons rfl (sub_cons rfl (sub_cons rfl (sub_cons rfl (sub_cons rfl (sub_nil _))))))) (ih (i + 1, xs.set i 170) w ⟨h, by omega, by rw [List.length_set]; exact hxl⟩ (by simp only []; omega))
  · refine runO_nil (run_seq (run_cond_false rfl (run_exit rfl (run_seq (run_seq (run_region_lit ?_))))))
    refine o_rd (rd_move rfl) trivial rfl ?_
    refine o_ef trivial (ef_buildSlice Tryd.underlying32 S5 rfl rfl rfl h rfl (fun s w h => ?_))
    refine o_ef trivial (ef_append Tryd.underlying32 N32 S5 rfl 3 rfl rfl h rfl (Src.slice (h.rowPt 0 rfl) rfl rfl) (bcells_len xs) rfl (by omega) (by omega) rfl (fun a13 w h => ?_))
    obtain ⟨a7, n7, c7, rfl, hl7, _⟩ := Sat.ownRow 3 h rfl
    have hn7 : n7 = xs.length + 2 := by
      have : (bcells xs ++ [Value.int .u8 170, Value.int .u8 170]).length = n7 * 1 := hl7
      simp only [List.length_append, List.length_cons, List.length_nil, bcells_len] at this
      omega
    refine o_rd (rd_assign rfl) trivial rfl ?_
    refine runO_nil (run_seq (run_region_lit ?_))
    refine o_rd (rd_move rfl) trivial rfl ?_
    refine o_rd (rd_len (u := 0) T32 rfl) trivial rfl ?_
    refine o_rd (Reads.to (v' := .bool false) (rd_lss rfl rfl) (by simp only [decide_eq_false_iff_not, Value.bool.injEq]; omega)) trivial rfl ?_
    refine runO_nil (run_cond_false rfl (run_skip (run_seq (run_region_lit ?_))))
    refine o_rd (rd_fieldA F29_0 S24 rfl) trivial rfl ?_
    refine o_ld rfl (h.at_ 4 rfl) T24 rfl rfl trivial rfl ?_
    refine o_rd (rd_move rfl) trivial rfl ?_
    refine o_ef trivial (ef_call (Tryd.call29) rfl rfl ?_)
    refine FnC.mono (disk_Read (r.small name) (Sat.bring 2 h)) ?_
    rintro v9 w ⟨a5, n5, c5, e9, h⟩
    rw [hf] at e9 h
    simp only [Option.isSome_none, Option.isSome_some, Bool.false_eq_true, if_true, if_false, Option.getD_none, Option.getD_some, List.length_nil] at e9 h
    subst e9
    obtain ⟨_, _, _, e5, hl5, _⟩ := Sat.ownRow 0 h rfl
    cases e5
    rw [bcells_len] at hl5
    have hn5 : n5 = f.length := by omega
    refine o_rd (rd_move rfl) trivial rfl ?_
    refine o_rd (rd_extract rfl rfl) trivial rfl ?_
    refine o_rd (rd_extract rfl rfl) trivial rfl ?_
    refine o_rd (rd_assign rfl) trivial rfl ?_
    refine o_rd (rd_assign rfl) trivial rfl ?_
    refine runO_nil (run_seq ?_)
    obtain ⟨a, n, c, gs, hcut, hn, hnc, hcm, hkg, h⟩ := refR_open (Sat.bring 3 (Sat.bring 2 (Sat.bring 1 (Sat.bring 3 (Sat.out 2 (Sat.out 4 h))))))
    subst hn
    obtain ⟨bb, C, fr, fa, fl, fc, ea, hg, hpg, hpl, hfl, hfc, hfm, hb, hcb⟩ := file_of 1 2 h rfl rfl hw
    subst ea
    have hrf := vals_roww 2 h rfl hg hw
    obtain ⟨_, _, _, e5, _, _, _, hr5⟩ := Sat.ownRow 4 h rfl
    cases e5
    refine run_region_lit ?_
    refine o_rd (rd_move rfl) trivial rfl ?_
    refine o_rd (rd_fieldA F29_1 S26 rfl) trivial rfl ?_
    refine o_ld rfl (h.at_ 5 rfl) T26 rfl rfl trivial rfl ?_
    refine o_rd (rd_nil rfl) trivial rfl ?_
    refine o_rd (rd_fieldA F73_0 S71 rfl) trivial rfl ?_
    refine o_ld rfl (h.at_ 0 rfl) T71 rfl rfl trivial rfl ?_
    refine o_rd (rd_move rfl) trivial rfl ?_
    refine o_rd (rd_idx T71 S76 rfl rfl (by omega) (by omega)) trivial rfl ?_
    refine o_rd (rd_fieldA F76_1 S32 rfl) trivial rfl ?_
    refine o_ld rfl hb T32 rfl hcb trivial rfl ?_
    refine o_ef trivial (ef_call (Tryd.call36) rfl rfl ?_)
    refine FnC.mono (bytes_Equal (x := f) (y := f) hn5 hfl hr5 hrf) ?_
    rintro v9 _ ⟨e9, rfl⟩
    rw [decide_eq_true rfl] at e9
    subst e9
    refine o_rd (rd_assign rfl) trivial rfl ?_
    refine runO_nil ?_
    refine run_ret Tryd.func33 (RV.tmp rfl RV.nil) ?_
    -- ret 0 path L0.c1f. L ['w', 'fl', 'vals', 'D', 'o2', 't']
    exact ⟨rfl, refR_close hcut (Sat.out 4 (Sat.out 5 h)) |> fun h => h.swap⟩

theorem law_file {b b2 : Nat} {D W : DiskV} {name : ByteArray} {w : World} {R : List Hp} (r : RelD D W) (h : Sat w (diskR b D :: refR b2 W :: R)) :
    FnC Tryd.prog 33 [.agg #[.pointer (some ⟨b, 0, none⟩), .pointer (some ⟨b2, 0, none⟩)], .string name] w fun v w' => v = .bool true ∧ Sat w' (diskR b D :: refR b2 W :: R) := by
  cases hf : kget D.files name with
  | none => exact law_file_none r hf h
  | some f => exact law_file_some r hf h

theorem law_does {b b2 : Nat} {D W : DiskV} {O : Hp} {kind n : Int} {name dst : ByteArray} {ba : Option Addr} {bcap : Nat} {bytes : List UInt8} {w : World} {R : List Hp} (r : RelD D W) (hrow : ∀ g, O g → RowH g ba (bcells bytes)) (hcap : bytes.length ≤ bcap) (hmax : bcap ≤ 9223372036854775807) (hroom : bytes.length ≤ 140737488351232) (hnm : name.size ≤ 9223372036854775807) (htm : dst.size ≤ 9223372036854775807) (hlo : -9223372036854775808 ≤ n) (hhi : n ≤ 9223372036854775807)
    (hit : ∀ (n : Nat) (w : World), n < 260 → (∃ g, hsub g (hof w) ∧ O g) → FnC Tryd.prog 44 [.int .i64 n] w fun v w' => ∃ s, v = .string s ∧ s.size ≤ 100 ∧ ∀ (i : Nat) (x : Obj), w.heap[i]? = some x → w'.heap[i]? = some x) (h : Sat w (diskR b D :: refR b2 W :: O :: R)) :
    FnC Tryd.prog 14 [.agg #[.pointer (some ⟨b, 0, none⟩), .pointer (some ⟨b2, 0, none⟩)], .agg #[.int .i64 kind, .string name, .string dst, .int .i64 n, .slice ba bytes.length bcap]] w fun v w' => v = .bool true ∧ ∃ D' W', RelD D' W' ∧ Sat w' (diskR b D' :: refR b2 W' :: O :: R) := by
  have hWl : W.files.length ≤ 256 := by rw [← r.len]; exact r.many
  have hWf : ∀ f, kget W.files name = some f → f.length ≤ 4194304 := fun f e => r.size name f ((r.same name).trans e)
  refine fnC_of_run Tryd.func14 rfl Tryd.ntmps14 (Nat.le_of_ble_eq_true rfl) (fun cs => ?_)
  refine run_seq (run_region_lit ?_)
  refine o_ef trivial (ef_box rfl rfl h (fun wb w h => ?_))
  replace h := Sat.conv (B := pt wb (.cells #[.pointer (some ⟨b, 0, none⟩), .pointer (some ⟨b2, 0, none⟩)] 29)) 0 h rfl (fun _ x => x)
  refine o_ef trivial (ef_box rfl rfl h (fun ob w h => ?_))
  replace h := Sat.conv (B := pt ob (.cells #[.int .i64 kind, .string name, .string dst, .int .i64 n, .slice ba bytes.length bcap] 34)) 0 h rfl (fun _ x => x)
  refine o_rd (rd_assign rfl) trivial rfl ?_
  refine runO_nil (run_seq (run_seq (run_region_lit ?_)))
  refine o_rd (rd_fieldA F34_0 S3 rfl) trivial rfl ?_
  refine o_ld rfl (h.at_ 0 rfl) T3 rfl rfl trivial rfl ?_
  refine o_rd (rd_conv T3 T35 rfl) trivial rfl ?_
  refine o_rd (rd_rem rfl rfl (u64_nonneg _) (by omega)) trivial rfl ?_
  refine runO_nil (run_block (run_seq (run_region_lit ?_)))
  refine o_tD (rd_eql rfl rfl) trivial rfl (fun c1 => ?_) (fun c1 => ?_)
  · refine o_rd (rd_assign rfl) trivial rfl ?_
    refine runO_nil (run_cond_true rfl (run_seq (run_region_lit ?_)))
    refine o_rd (rd_fieldA F34_4 S32 rfl) trivial rfl ?_
    refine o_ld rfl (h.at_ 0 rfl) T32 rfl rfl trivial rfl ?_
    refine o_ef trivial (ef_call (Tryd.call35) rfl rfl ?_)
    refine FnC.mono (law_room hrow hroom (Sat.bring 4 h)) ?_
    rintro _ w ⟨a6, n6, c6, rfl, h⟩
    obtain ⟨_, _, _, e5, hl6, hc6, hm6, _⟩ := Sat.ownRow 0 h rfl
    cases e5
    have hn6 : n6 = bytes.length + 3 := by rw [bcells_len] at hl6; simp only [List.length_append, List.length_cons, List.length_nil] at hl6; omega
    refine o_rd (rd_assign rfl) trivial rfl ?_
    refine runO_nil (run_seq ?_)
    refine run_drawS 10 1 [(0, true), (1, true), (2, true), (3, true), (4, true), (5, true), (6, true), (7, true), (8, true), (9, false), (10, false)] [(_, true), (_, true), (_, true), (_, true), (_, true), (_, true), (_, true), (_, true), (_, true), (_, false), (_, false)] h (Holds.cons (h.at_ 3 rfl) (Holds.cons (h.at_ 2 rfl) (Holds.nil _))) mixed (by kernel_rfl) rfl ?_
    intro w h hK
    refine d_rd (rd_fieldA F29_0 S24 rfl) hK trivial rfl ?_
    refine d_ld rfl 0 rfl T24 rfl rfl hK trivial rfl ?_
    refine d_rd (rd_fieldA F34_1 S9 rfl) hK trivial rfl ?_
    refine d_ld rfl 1 rfl T9 rfl rfl hK trivial rfl ?_
    refine d_rd (rd_move rfl) hK trivial rfl ?_
    refine d_rd (rd_fieldA F34_4 S32 rfl) hK trivial rfl ?_
    refine d_ld rfl 1 rfl T32 rfl rfl hK trivial rfl ?_
    refine d_rd (rd_len (u := 0) T32 rfl) hK trivial rfl ?_
    refine d_rd (Reads.to (v' := .slice a6 bytes.length c6) (rd_sliceH T32 S5 rfl rfl (by omega) (by omega)) (rfl)) hK trivial rfl ?_
    refine d_ef trivial (ef_call (Tryd.call28) rfl rfl ?_)
    refine FnC.mono (disk_Append own_head (by omega) hm6 (Sat.bring 4 h)) ?_
    rintro _ w ⟨rfl, h⟩
    refine ⟨fun _ => (Holds.cons (h.at_ 4 rfl) (Holds.cons (h.at_ 3 rfl) (Holds.nil _))), ?_⟩
    replace hK := (Holds.cons (h.at_ 4 rfl) (Holds.cons (h.at_ 3 rfl) (Holds.nil _)))
    refine d_rd0 (rd_assign rfl) hK trivial rfl ?_
    refine d_nil ?_
    refine run_seq (run_seq ?_)
    obtain ⟨bo, Co, fo, ea, rok, h⟩ := h.ownOpen 1 rfl (by omega)
    subst ea
    refine run_drawS 17 6 [(0, true), (1, true), (2, true), (3, true), (4, true), (5, true), (6, true), (7, false), (8, true), (9, true), (10, true), (11, true), (12, true), (13, true), (14, true), (15, true), (16, true), (17, false)] [(_, true), (_, true), (_, true), (_, true), (_, true), (_, true), (_, true), (_, false), (_, true), (_, true), (_, true), (_, true), (_, true), (_, true), (_, true), (_, true), (_, true), (_, false)] h (Holds.cons (h.at_ 3 rfl) (Holds.cons (h.at_ 1 rfl) (Holds.nil _))) mixed (by kernel_rfl) rfl ?_
    intro w h hK
    refine d_rd (rd_move rfl) hK trivial rfl ?_
    refine d_rd (rd_fieldA F34_4 S32 rfl) hK trivial rfl ?_
    refine d_ld rfl 0 rfl T32 rfl rfl hK trivial rfl ?_
    refine d_rd (rd_len (u := 0) T32 rfl) hK trivial rfl ?_
    refine d_rd (Reads.to (v' := .slice (some ⟨bo, 0, none⟩) bytes.length c6) (rd_sliceH T32 S5 rfl rfl (by omega) (by omega)) (rfl)) hK trivial rfl ?_
    refine d_rd (rd_fieldA F34_4 S32 rfl) hK trivial rfl ?_
    refine d_ld rfl 0 rfl T32 rfl rfl hK trivial rfl ?_
    have hr5 : RowW w (some ⟨bo, 0, none⟩) (bcells bytes) := row_head (RowOk.row rok (h.at_ 1 rfl))
    have hr6 := h.rowOf 2 rfl hrow
    refine d_ef trivial (ef_call (Tryd.call36) rfl rfl ?_)
    refine FnC.mono (bytes_Equal (x := bytes) (y := bytes) rfl rfl hr5 hr6) ?_
    rintro v9 _ ⟨e9, rfl⟩
    rw [decide_eq_true rfl] at e9
    subst e9
    refine ⟨fun _ => (Holds.cons (h.at_ 3 rfl) (Holds.cons (h.at_ 1 rfl) (Holds.nil _))), ?_⟩
    replace hK := (Holds.cons (h.at_ 3 rfl) (Holds.cons (h.at_ 1 rfl) (Holds.nil _)))
    refine d_rd (rd_not rfl) hK trivial rfl ?_
    refine d_rd (rd_move rfl) hK trivial rfl ?_
    refine d_rd (rd_move rfl) hK rfl rfl ?_
    refine d_rd (rd_fieldA F34_4 S32 rfl) hK rfl rfl ?_
    refine d_ld rfl 0 rfl T32 rfl rfl hK rfl rfl ?_
    refine d_rd (rd_len (u := 0) T32 rfl) hK rfl rfl ?_
    refine d_rd (rd_idx T32 S5 rfl rfl (by omega) (by omega)) hK rfl rfl ?_
    refine d_ld rfl 1 rfl T5 rfl (by rw [Nat.zero_add, Nat.mul_one]; exact (rok.get bytes.length (by omega)).trans (room_seven bytes)) hK rfl rfl ?_
    refine d_rd (Reads.to (v' := .bool false) (rd_neq rfl rfl) (rfl)) hK rfl rfl ?_
    refine d_rd0 (rd_pick_f rfl rfl) hK trivial rfl ?_
    refine d_nil ?_
    replace h := h.ownClose 1 rfl rok
    refine run_cond_false rfl (run_skip (run_seq (run_seq (run_region_lit ?_))))
    refine o_rd (rd_move rfl) trivial rfl ?_
    refine o_rd (rd_len (u := 0) T32 rfl) trivial rfl ?_
    refine o_rd (rd_move rfl) trivial rfl ?_
    refine runO_nil (run_block ?_)
    refine run_loop (σ := Nat × List UInt8) (fun (i, xs) => [(2, .pointer (some ⟨wb, 0, none⟩)), (3, .pointer (some ⟨ob, 0, none⟩)), (5, .slice (some ⟨bo, 0, none⟩) n6 c6), (6, .int .i64 (D.append name bytes).2), (49, .int .i64 n6), (50, .int .i64 (i : Nat))]) (fun (i, xs) w => Sat w (OwnS 5 1 (.slice (some ⟨bo, 0, none⟩) n6 c6) (bcells xs) :: pt wb (.cells #[.pointer (some ⟨b, 0, none⟩), .pointer (some ⟨b2, 0, none⟩)] 29) :: pt ob (.cells #[.int .i64 kind, .string name, .string dst, .int .i64 n, .slice ba bytes.length bcap] 34) :: diskR b (D.append name bytes).1 :: refR b2 W :: O :: R) ∧ i ≤ n6 ∧ xs.length = n6) (fun (i, xs) => n6 - i) (0, bytes ++ [7, 7, 7]) ?_ (sub_cons rfl (sub_cons rfl (sub_cons rfl (sub_cons rfl (sub_cons rfl (sub_cons rfl (sub_nil _))))))) ?_
    · exact ⟨(Sat.bring 5 (Sat.bring 5 (Sat.bring 4 (Sat.bring 2 (Sat.bring 5 (Sat.bring 2 h)))))), Nat.zero_le _, by rw [hn6]; simp⟩
    clear h
    rintro ⟨i, xs⟩ w ⟨h, hi, hxl⟩ ih
    refine run_seq (run_region_lit ?_)
    refine o_tD (rd_lss rfl rfl) trivial rfl (fun c2 => ?_) (fun c2 => ?_)
    · refine runO_nil (run_seq (run_cond_true rfl (run_skip (run_seq (run_block (run_seq (run_region_lit ?_)))))))
      refine o_rd (rd_move rfl) trivial rfl ?_
      refine o_rd (rd_assign rfl) trivial rfl ?_
      refine runO_nil ?_
      obtain ⟨bb3, C3, fr3, ea3, rok3, h⟩ := h.ownOpen 0 rfl (by omega)
      have e3 : bo = bb3 := by simpa using ea3
      subst e3
      refine run_region_lit ?_
      refine o_rd (rd_move rfl) trivial rfl ?_
      refine o_rd (rd_move rfl) trivial rfl ?_
      refine o_rd (rd_idx T32 S5 rfl rfl (by omega) (by omega)) trivial rfl ?_
      refine o_ef trivial (ef_store S5 0 rfl rfl h rfl rfl rfl (by have := rok3.size; omega) (rok3.fok _ _ (by omega)) (fun w h => ?_))
      refine runO_nil (run_inBlock (run_region_lit ?_))
      refine o_rd (rd_addi rfl rfl (by constructor <;> omega)) trivial rfl ?_
      refine o_rd (rd_move rfl) trivial rfl ?_
      refine runO_nil ?_
      -- round of loop 0 path c1t.L0.c2t. L ['o', 'wb', 'ob', 'D', 'W', 'O']
      have rok2 := rok3.set (0 + i * 1) (.int .u8 187)
      rw [show (bcells xs).set (0 + i * 1) (Value.int .u8 187) = bcells (xs.set i 187) by rw [Nat.zero_add, Nat.mul_one]; exact (bcells_set xs i 187).symm] at rok2
      replace h := h.ownClose 0 rfl rok2
      exact run_fewer (sub_cons rfl (sub_cons rfl (sub_cons rfl (sub_cons rfl (sub_cons rfl (sub_cons rfl (sub_nil _))))))) (ih (i + 1, xs.set i 187) w ⟨h, by omega, by rw [List.length_set]; exact hxl⟩ (by simp only []; omega))
    · refine runO_nil (run_seq (run_cond_false rfl (run_exit rfl (run_seq (run_region_lit ?_)))))
      refine o_rd (rd_move rfl) trivial rfl ?_
      refine o_rd (rd_fieldA F29_1 S26 rfl) trivial rfl ?_
      refine o_ld rfl (h.at_ 1 rfl) T26 rfl rfl trivial rfl ?_
      refine o_rd (rd_fieldA F34_1 S9 rfl) trivial rfl ?_
      refine o_ld rfl (h.at_ 2 rfl) T9 rfl rfl trivial rfl ?_
      refine o_rd (rd_fieldA F34_4 S32 rfl) trivial rfl ?_
      refine o_ld rfl (h.at_ 2 rfl) T32 rfl rfl trivial rfl ?_
      refine o_ef trivial (ef_call (Tryd.call37) rfl rfl ?_)
      refine FnC.mono (ref_Append hrow hcap hmax hnm hWl hWf (Sat.bring 5 (Sat.bring 5 h))) ?_
      rintro _ w ⟨rfl, h⟩
      refine o_rd (Reads.to (v' := .bool true) (rd_eql rfl rfl) (by rw [(rel_append r name bytes).1]; simp)) trivial rfl ?_
      refine o_rd (rd_move rfl) trivial rfl ?_
      refine o_ldG rfl (h.at_ 3 rfl) G29 rfl rfl rfl ?_
      refine o_rd (rd_fieldA F34_1 S9 rfl) rfl rfl ?_
      refine o_ld rfl (h.at_ 4 rfl) T9 rfl rfl rfl rfl ?_
      refine o_ef rfl (ef_call (Tryd.call33) rfl rfl ?_)
      refine FnC.mono (law_file (rel_append r name bytes).2 (Sat.bring 5 h)) ?_
      rintro _ w ⟨rfl, h⟩
      refine o_rd (rd_pick_t rfl rfl) trivial rfl ?_
      refine o_rd (rd_assign rfl) trivial rfl ?_
      refine runO_nil ?_
      refine run_ret Tryd.func14 (RV.tmp rfl RV.nil) ?_
      -- ret 0 path c1t.L0.c2f. L ['D', 'W', 'O', 'o', 'wb', 'ob']
      exact ⟨rfl, _, _, (rel_append r name bytes).2, (Sat.out 3 (Sat.out 4 (Sat.out 5 h)))⟩
  · refine o_rd (rd_assign rfl) trivial rfl ?_
    refine runO_nil (run_cond_false rfl (run_seq (run_region_lit ?_)))
    refine o_tD (rd_eql rfl rfl) trivial rfl (fun c3 => ?_) (fun c3 => ?_)
    · refine o_rd (rd_assign rfl) trivial rfl ?_
      refine runO_nil (run_cond_true rfl (run_seq ?_))
      refine run_drawS 21 1 [(0, true), (1, true), (2, true), (3, true), (4, true), (5, true), (7, true), (8, true), (9, true), (10, true), (11, true), (12, true), (6, false), (13, false), (14, true), (15, true), (16, true), (17, true), (18, true), (19, false), (20, true), (21, false)] [(_, true), (_, true), (_, true), (_, true), (_, true), (_, true), (_, true), (_, true), (_, true), (_, true), (_, true), (_, true), (_, false), (_, false), (_, true), (_, true), (_, true), (_, true), (_, true), (_, false), (_, true), (_, false)] h (Holds.cons (h.at_ 1 rfl) (Holds.cons (h.at_ 0 rfl) (Holds.nil _))) mixed (by kernel_rfl) rfl ?_
      intro w h hK
      refine d_rd (rd_fieldA F29_0 S24 rfl) hK trivial rfl ?_
      refine d_ld rfl 0 rfl T24 rfl rfl hK trivial rfl ?_
      refine d_rd (rd_fieldA F34_1 S9 rfl) hK trivial rfl ?_
      refine d_ld rfl 1 rfl T9 rfl rfl hK trivial rfl ?_
      refine d_rd (rd_fieldA F34_3 S3 rfl) hK trivial rfl ?_
      refine d_ld rfl 1 rfl T3 rfl rfl hK trivial rfl ?_
      refine d_rd (rd_fieldA F29_1 S26 rfl) hK trivial rfl ?_
      refine d_ld rfl 0 rfl T26 rfl rfl hK trivial rfl ?_
      refine d_rd (rd_fieldA F34_1 S9 rfl) hK trivial rfl ?_
      refine d_ld rfl 1 rfl T9 rfl rfl hK trivial rfl ?_
      refine d_rd (rd_fieldA F34_3 S3 rfl) hK trivial rfl ?_
      refine d_ld rfl 1 rfl T3 rfl rfl hK trivial rfl ?_
      refine d_ef trivial (ef_call (Tryd.call38) rfl rfl ?_)
      refine FnC.mono (disk_Truncate (r.small name) (Sat.bring 2 h)) ?_
      rintro _ w ⟨rfl, h⟩
      refine ⟨fun _ => (Holds.cons (h.at_ 2 rfl) (Holds.cons (h.at_ 1 rfl) (Holds.nil _))), ?_⟩
      replace hK := (Holds.cons (h.at_ 2 rfl) (Holds.cons (h.at_ 1 rfl) (Holds.nil _)))
      refine d_ef trivial (ef_call (Tryd.call39) rfl rfl ?_)
      refine FnC.mono (ref_Truncate (Sat.bring 3 h)) ?_
      rintro _ w ⟨rfl, h⟩
      refine ⟨fun _ => (Holds.cons (h.at_ 3 rfl) (Holds.cons (h.at_ 2 rfl) (Holds.nil _))), ?_⟩
      replace hK := (Holds.cons (h.at_ 3 rfl) (Holds.cons (h.at_ 2 rfl) (Holds.nil _)))
      refine d_rd (Reads.to (v' := .bool true) (rd_eql rfl rfl) (by rw [(rel_truncate r name n).1]; simp)) hK trivial rfl ?_
      refine d_rd (rd_move rfl) hK trivial rfl ?_
      refine d_ldG rfl 0 rfl G29 rfl hK rfl rfl ?_
      refine d_rd (rd_fieldA F34_1 S9 rfl) hK rfl rfl ?_
      refine d_ld rfl 1 rfl T9 rfl rfl hK rfl rfl ?_
      refine d_ef rfl (ef_call (Tryd.call33) rfl rfl ?_)
      refine FnC.mono (law_file (rel_truncate r name n).2 (Sat.bring 1 h)) ?_
      rintro _ w ⟨rfl, h⟩
      refine ⟨fun _ => (Holds.cons (h.at_ 3 rfl) (Holds.cons (h.at_ 2 rfl) (Holds.nil _))), ?_⟩
      replace hK := (Holds.cons (h.at_ 3 rfl) (Holds.cons (h.at_ 2 rfl) (Holds.nil _)))
      refine d_rd (rd_pick_t rfl rfl) hK trivial rfl ?_
      refine d_rd0 (rd_assign rfl) hK trivial rfl ?_
      refine d_nil ?_
      refine run_ret Tryd.func14 (RV.tmp rfl RV.nil) ?_
      -- ret 1 path c1f.c3t. L ['D', 'W', 'ob', 'wb', 'O']
      exact ⟨rfl, _, _, (rel_truncate r name n).2, (Sat.out 2 (Sat.out 3 h))⟩
    · refine o_rd (rd_assign rfl) trivial rfl ?_
      refine runO_nil (run_cond_false rfl (run_seq (run_region_lit ?_)))
      refine o_tD (rd_eql rfl rfl) trivial rfl (fun c4 => ?_) (fun c4 => ?_)
      · refine o_rd (rd_assign rfl) trivial rfl ?_
        refine runO_nil (run_cond_true rfl (run_seq ?_))
        refine run_drawS 27 1 [(0, true), (1, true), (2, true), (3, true), (4, true), (5, true), (7, true), (8, true), (9, true), (10, true), (11, true), (12, true), (6, false), (13, false), (14, true), (15, true), (16, true), (17, true), (18, true), (19, false), (20, true), (21, true), (22, true), (23, true), (24, true), (25, false), (26, true), (27, false)] [(_, true), (_, true), (_, true), (_, true), (_, true), (_, true), (_, true), (_, true), (_, true), (_, true), (_, true), (_, true), (_, false), (_, false), (_, true), (_, true), (_, true), (_, true), (_, true), (_, false), (_, true), (_, true), (_, true), (_, true), (_, true), (_, false), (_, true), (_, false)] h (Holds.cons (h.at_ 1 rfl) (Holds.cons (h.at_ 0 rfl) (Holds.nil _))) mixed (by kernel_rfl) rfl ?_
        intro w h hK
        refine d_rd (rd_fieldA F29_0 S24 rfl) hK trivial rfl ?_
        refine d_ld rfl 0 rfl T24 rfl rfl hK trivial rfl ?_
        refine d_rd (rd_fieldA F34_1 S9 rfl) hK trivial rfl ?_
        refine d_ld rfl 1 rfl T9 rfl rfl hK trivial rfl ?_
        refine d_rd (rd_fieldA F34_2 S9 rfl) hK trivial rfl ?_
        refine d_ld rfl 1 rfl T9 rfl rfl hK trivial rfl ?_
        refine d_rd (rd_fieldA F29_1 S26 rfl) hK trivial rfl ?_
        refine d_ld rfl 0 rfl T26 rfl rfl hK trivial rfl ?_
        refine d_rd (rd_fieldA F34_1 S9 rfl) hK trivial rfl ?_
        refine d_ld rfl 1 rfl T9 rfl rfl hK trivial rfl ?_
        refine d_rd (rd_fieldA F34_2 S9 rfl) hK trivial rfl ?_
        refine d_ld rfl 1 rfl T9 rfl rfl hK trivial rfl ?_
        refine d_ef trivial (ef_call (Tryd.call40) rfl rfl ?_)
        refine FnC.mono (disk_Rename (Sat.bring 2 h)) ?_
        rintro _ w ⟨rfl, h⟩
        refine ⟨fun _ => (Holds.cons (h.at_ 2 rfl) (Holds.cons (h.at_ 1 rfl) (Holds.nil _))), ?_⟩
        replace hK := (Holds.cons (h.at_ 2 rfl) (Holds.cons (h.at_ 1 rfl) (Holds.nil _)))
        refine d_ef trivial (ef_call (Tryd.call41) rfl rfl ?_)
        refine FnC.mono (ref_Rename (by omega) htm (Sat.bring 3 h)) ?_
        rintro _ w ⟨rfl, h⟩
        refine ⟨fun _ => (Holds.cons (h.at_ 3 rfl) (Holds.cons (h.at_ 2 rfl) (Holds.nil _))), ?_⟩
        replace hK := (Holds.cons (h.at_ 3 rfl) (Holds.cons (h.at_ 2 rfl) (Holds.nil _)))
        refine d_rd (Reads.to (v' := .bool true) (rd_eql rfl rfl) (by rw [(rel_rename r name dst).1]; simp)) hK trivial rfl ?_
        refine d_rd (rd_move rfl) hK trivial rfl ?_
        refine d_ldG rfl 0 rfl G29 rfl hK rfl rfl ?_
        refine d_rd (rd_fieldA F34_1 S9 rfl) hK rfl rfl ?_
        refine d_ld rfl 1 rfl T9 rfl rfl hK rfl rfl ?_
        refine d_ef rfl (ef_call (Tryd.call33) rfl rfl ?_)
        refine FnC.mono (law_file (rel_rename r name dst).2 (Sat.bring 1 h)) ?_
        rintro _ w ⟨rfl, h⟩
        refine ⟨fun _ => (Holds.cons (h.at_ 3 rfl) (Holds.cons (h.at_ 2 rfl) (Holds.nil _))), ?_⟩
        replace hK := (Holds.cons (h.at_ 3 rfl) (Holds.cons (h.at_ 2 rfl) (Holds.nil _)))
        refine d_rd (rd_pick_t rfl rfl) hK trivial rfl ?_
        refine d_rd (rd_move rfl) hK trivial rfl ?_
        refine d_ldG rfl 0 rfl G29 rfl hK rfl rfl ?_
        refine d_rd (rd_fieldA F34_2 S9 rfl) hK rfl rfl ?_
        refine d_ld rfl 1 rfl T9 rfl rfl hK rfl rfl ?_
        refine d_ef rfl (ef_call (Tryd.call33) rfl rfl ?_)
        refine FnC.mono (law_file (rel_rename r name dst).2 h) ?_
        rintro _ w ⟨rfl, h⟩
        refine ⟨fun _ => (Holds.cons (h.at_ 3 rfl) (Holds.cons (h.at_ 2 rfl) (Holds.nil _))), ?_⟩
        replace hK := (Holds.cons (h.at_ 3 rfl) (Holds.cons (h.at_ 2 rfl) (Holds.nil _)))
        refine d_rd (rd_pick_t rfl rfl) hK trivial rfl ?_
        refine d_rd0 (rd_assign rfl) hK trivial rfl ?_
        refine d_nil ?_
        refine run_ret Tryd.func14 (RV.tmp rfl RV.nil) ?_
        -- ret 2 path c1f.c3f.c4t. L ['D', 'W', 'ob', 'wb', 'O']
        exact ⟨rfl, _, _, (rel_rename r name dst).2, (Sat.out 2 (Sat.out 3 h))⟩
      · refine o_rd (rd_assign rfl) trivial rfl ?_
        refine runO_nil (run_cond_false rfl (run_seq (run_region_lit ?_)))
        refine o_tD (rd_eql rfl rfl) trivial rfl (fun c5 => ?_) (fun c5 => ?_)
        · refine o_rd (rd_assign rfl) trivial rfl ?_
          refine runO_nil (run_cond_true rfl (run_seq ?_))
          refine run_drawS 17 1 [(0, true), (1, true), (2, true), (3, true), (5, true), (6, true), (7, true), (8, true), (4, false), (9, false), (10, true), (11, true), (12, true), (13, true), (14, true), (15, false), (16, true), (17, false)] [(_, true), (_, true), (_, true), (_, true), (_, true), (_, true), (_, true), (_, true), (_, false), (_, false), (_, true), (_, true), (_, true), (_, true), (_, true), (_, false), (_, true), (_, false)] h (Holds.cons (h.at_ 1 rfl) (Holds.cons (h.at_ 0 rfl) (Holds.nil _))) mixed (by kernel_rfl) rfl ?_
          intro w h hK
          refine d_rd (rd_fieldA F29_0 S24 rfl) hK trivial rfl ?_
          refine d_ld rfl 0 rfl T24 rfl rfl hK trivial rfl ?_
          refine d_rd (rd_fieldA F34_1 S9 rfl) hK trivial rfl ?_
          refine d_ld rfl 1 rfl T9 rfl rfl hK trivial rfl ?_
          refine d_rd (rd_fieldA F29_1 S26 rfl) hK trivial rfl ?_
          refine d_ld rfl 0 rfl T26 rfl rfl hK trivial rfl ?_
          refine d_rd (rd_fieldA F34_1 S9 rfl) hK trivial rfl ?_
          refine d_ld rfl 1 rfl T9 rfl rfl hK trivial rfl ?_
          refine d_ef trivial (ef_call (Tryd.call42) rfl rfl ?_)
          refine FnC.mono (disk_Remove (Sat.bring 2 h)) ?_
          rintro _ w ⟨rfl, h⟩
          refine ⟨fun _ => (Holds.cons (h.at_ 2 rfl) (Holds.cons (h.at_ 1 rfl) (Holds.nil _))), ?_⟩
          replace hK := (Holds.cons (h.at_ 2 rfl) (Holds.cons (h.at_ 1 rfl) (Holds.nil _)))
          refine d_ef trivial (ef_call (Tryd.call43) rfl rfl ?_)
          refine FnC.mono (ref_Remove (by omega) (Sat.bring 3 h)) ?_
          rintro _ w ⟨rfl, h⟩
          refine ⟨fun _ => (Holds.cons (h.at_ 3 rfl) (Holds.cons (h.at_ 2 rfl) (Holds.nil _))), ?_⟩
          replace hK := (Holds.cons (h.at_ 3 rfl) (Holds.cons (h.at_ 2 rfl) (Holds.nil _)))
          refine d_rd (Reads.to (v' := .bool true) (rd_eql rfl rfl) (by rw [(rel_remove r name).1]; simp)) hK trivial rfl ?_
          refine d_rd (rd_move rfl) hK trivial rfl ?_
          refine d_ldG rfl 0 rfl G29 rfl hK rfl rfl ?_
          refine d_rd (rd_fieldA F34_1 S9 rfl) hK rfl rfl ?_
          refine d_ld rfl 1 rfl T9 rfl rfl hK rfl rfl ?_
          refine d_ef rfl (ef_call (Tryd.call33) rfl rfl ?_)
          refine FnC.mono (law_file (rel_remove r name).2 (Sat.bring 1 h)) ?_
          rintro _ w ⟨rfl, h⟩
          refine ⟨fun _ => (Holds.cons (h.at_ 3 rfl) (Holds.cons (h.at_ 2 rfl) (Holds.nil _))), ?_⟩
          replace hK := (Holds.cons (h.at_ 3 rfl) (Holds.cons (h.at_ 2 rfl) (Holds.nil _)))
          refine d_rd (rd_pick_t rfl rfl) hK trivial rfl ?_
          refine d_rd0 (rd_assign rfl) hK trivial rfl ?_
          refine d_nil ?_
          refine run_ret Tryd.func14 (RV.tmp rfl RV.nil) ?_
          -- ret 3 path c1f.c3f.c4f.c5t. L ['D', 'W', 'ob', 'wb', 'O']
          exact ⟨rfl, _, _, (rel_remove r name).2, (Sat.out 2 (Sat.out 3 h))⟩
        · refine o_rd (rd_assign rfl) trivial rfl ?_
          refine runO_nil (run_cond_false rfl (run_seq (run_region_lit ?_)))
          refine o_tD (rd_eql rfl rfl) trivial rfl (fun c6 => ?_) (fun c6 => ?_)
          · refine o_rd (rd_assign rfl) trivial rfl ?_
            refine runO_nil (run_cond_true rfl (run_seq (run_region_lit ?_)))
            refine o_rd (rd_fieldA F29_0 S24 rfl) trivial rfl ?_
            refine o_ld rfl (h.at_ 1 rfl) T24 rfl rfl trivial rfl ?_
            refine o_rd (rd_fieldA F34_3 S3 rfl) trivial rfl ?_
            refine o_ld rfl (h.at_ 0 rfl) T3 rfl rfl trivial rfl ?_
            refine o_ef trivial (ef_call (Tryd.call23) rfl rfl ?_)
            refine FnC.mono (disk_Cut (Sat.bring 2 h)) ?_
            rintro _ w ⟨rfl, h⟩
            refine o_rd (rd_assign rfl) trivial rfl ?_
            refine runO_nil (run_seq (run_seq (run_region_lit ?_)))
            refine o_rd (rd_fieldA F34_3 S3 rfl) trivial rfl ?_
            refine o_ld rfl (h.at_ 1 rfl) T3 rfl rfl trivial rfl ?_
            refine o_tD (rd_lss rfl rfl) trivial rfl (fun c7 => ?_) (fun c7 => ?_)
            · refine runO_nil (run_cond_true rfl (run_seq (run_region_lit ?_)))
              refine o_rd (rd_move rfl) trivial rfl ?_
              refine o_rd (Reads.to (v' := .bool true) (rd_eql rfl rfl) (by rw [if_pos c7]; rfl)) trivial rfl ?_
              refine o_rd (rd_assign rfl) trivial rfl ?_
              refine runO_nil ?_
              refine run_ret Tryd.func14 (RV.tmp rfl RV.nil) ?_
              -- ret 4 path c1f.c3f.c4f.c5f.c6t.c7t. L ['D', 'ob', 'wb', 'W', 'O']
              exact ⟨rfl, _, _, (by rw [DiskV.setCut, if_pos c7]; exact r), (Sat.out 1 (Sat.out 2 h))⟩
            · refine runO_nil (run_cond_false rfl (run_skip (run_seq ?_)))
              obtain ⟨a, n, c, gs, hcut, hn, hnc, hcm, hkg, h⟩ := refR_open (Sat.bring 4 (Sat.bring 3 (Sat.bring 3 (Sat.bring 3 (Sat.bring 4 h)))))
              subst hn
              refine run_region_lit ?_
              refine o_rd (rd_fieldA F29_1 S26 rfl) trivial rfl ?_
              refine o_ld rfl (h.at_ 5 rfl) T26 rfl rfl trivial rfl ?_
              refine o_rd (rd_fieldA F34_3 S3 rfl) trivial rfl ?_
              refine o_ld rfl (h.at_ 4 rfl) T3 rfl rfl trivial rfl ?_
              refine o_rd (rd_nil rfl) trivial rfl ?_
              refine o_rd (rd_fieldA F73_2 S3 rfl) trivial rfl ?_
              refine o_ef trivial (ef_store S3 0 rfl rfl h rfl rfl rfl (Nat.le_of_ble_eq_true rfl) rfl (fun w h => ?_))
              refine runO_nil ?_
              replace h := refR_close (W := { W with left := n, cut := true }) (fun e => ⟨Int.not_lt.1 c7, hhi⟩) h
              refine run_seq (run_region_lit ?_)
              refine o_rd (rd_move rfl) trivial rfl ?_
              refine o_rd (Reads.to (v' := .bool true) (rd_eql rfl rfl) (by rw [if_neg c7]; rfl)) trivial rfl ?_
              refine o_rd (rd_assign rfl) trivial rfl ?_
              refine runO_nil ?_
              refine run_ret Tryd.func14 (RV.tmp rfl RV.nil) ?_
              -- ret 5 path c1f.c3f.c4f.c5f.c6t.c7f. L ['W', 'D', 'ob', 'wb', 'O']
              exact ⟨rfl, _, _, rel_cut r c7 hhi, (Sat.bring 2 (Sat.bring 1 (Sat.bring 2 (Sat.out 2 (Sat.out 3 h)))))⟩
          · refine o_rd (rd_assign rfl) trivial rfl ?_
            refine runO_nil (run_cond_false rfl (run_seq (run_region_lit ?_)))
            refine o_tD (rd_eql rfl rfl) trivial rfl (fun c8 => ?_) (fun c8 => ?_)
            · refine o_rd (rd_assign rfl) trivial rfl ?_
              refine runO_nil (run_cond_true rfl (run_seq ?_))
              obtain ⟨a, n, c, gs, hcut, hn, hnc, hcm, hkg, h⟩ := refR_open (Sat.bring 4 (Sat.bring 3 (Sat.bring 3 (Sat.bring 3 (Sat.bring 4 h)))))
              subst hn
              refine run_region_lit ?_
              refine o_rd (rd_fieldA F29_1 S26 rfl) trivial rfl ?_
              refine o_ld rfl (h.at_ 4 rfl) T26 rfl rfl trivial rfl ?_
              refine o_rd (rd_nil rfl) trivial rfl ?_
              refine o_rd (rd_fieldA F73_2 S3 rfl) trivial rfl ?_
              refine o_ef trivial (ef_store S3 0 rfl rfl h rfl rfl rfl (Nat.le_of_ble_eq_true rfl) rfl (fun w h => ?_))
              refine runO_nil ?_
              replace h := refR_close (W := { W with left := 0, cut := false }) (fun e => by cases e) h
              refine run_seq (run_region_lit ?_)
              refine o_rd (rd_fieldA F29_0 S24 rfl) trivial rfl ?_
              refine o_ld rfl (h.at_ 2 rfl) T24 rfl rfl trivial rfl ?_
              refine o_ef trivial (ef_call (Tryd.call24) rfl rfl ?_)
              refine FnC.mono (disk_Mend (Sat.bring 3 h)) ?_
              rintro _ w ⟨rfl, h⟩
              refine o_rd (Reads.to (v' := .bool true) (rd_eql rfl rfl) (rfl)) trivial rfl ?_
              refine o_rd (rd_assign rfl) trivial rfl ?_
              refine runO_nil ?_
              refine run_ret Tryd.func14 (RV.tmp rfl RV.nil) ?_
              -- ret 6 path c1f.c3f.c4f.c5f.c6f.c8t. L ['D', 'W', 'ob', 'wb', 'O']
              exact ⟨rfl, _, _, rel_mend r, (Sat.out 2 (Sat.out 3 h))⟩
            · refine o_rd (rd_assign rfl) trivial rfl ?_
              refine runO_nil (run_cond_false rfl (run_seq (run_region_lit ?_)))
              refine o_tD (rd_eql rfl rfl) trivial rfl (fun c9 => ?_) (fun c9 => ?_)
              · refine o_rd (rd_assign rfl) trivial rfl ?_
                refine runO_nil (run_cond_true rfl (run_seq (run_region_lit ?_)))
                refine o_rd (rd_assign rfl) trivial rfl ?_
                refine runO_nil (run_block ?_)
                refine run_loop (σ := Nat × DiskV × DiskV) (fun (k, D1, W1) => [(2, .pointer (some ⟨wb, 0, none⟩)), (3, .pointer (some ⟨ob, 0, none⟩)), (9, .int .i64 (k : Nat))]) (fun (k, D1, W1) w => Sat w (pt wb (.cells #[.pointer (some ⟨b, 0, none⟩), .pointer (some ⟨b2, 0, none⟩)] 29) :: pt ob (.cells #[.int .i64 kind, .string name, .string dst, .int .i64 n, .slice ba bytes.length bcap] 34) :: diskR b D1 :: refR b2 W1 :: O :: R) ∧ RelD D1 W1 ∧ k ≤ 260) (fun (k, D1, W1) => 260 - k) (0, D, W) ?_ (sub_cons rfl (sub_cons rfl (sub_cons rfl (sub_nil _)))) ?_
                · exact ⟨(Sat.bring 4 (Sat.bring 3 (Sat.bring 4 (Sat.bring 4 (Sat.bring 4 h))))), r, Nat.zero_le _⟩
                clear h
                rintro ⟨k, D1, W1⟩ w ⟨h, r, hk⟩ ih
                refine run_seq (run_seq (run_region_lit ?_))
                refine o_rd (rd_move rfl) trivial rfl ?_
                refine o_rd (rd_fieldA F34_3 S3 rfl) trivial rfl ?_
                refine o_ld rfl (h.at_ 1 rfl) T3 rfl rfl trivial rfl ?_
                refine o_rd (rd_min rfl rfl) trivial rfl ?_
                refine o_tD (rd_lss rfl rfl) trivial rfl (fun c10 => ?_) (fun c10 => ?_)
                · refine runO_nil (run_cond_true rfl (run_skip (run_seq (run_block (run_seq (run_region_lit ?_))))))
                  refine o_rd (rd_move rfl) trivial rfl ?_
                  refine o_ef trivial (ef_call (Tryd.call44) rfl rfl ?_)
                  refine FnC.mono (hit k w (by omega) (SatH.get 4 h rfl)) ?_
                  rintro _ w ⟨s, rfl, hs, hx⟩
                  replace h := h.same hx
                  refine o_rd (rd_addS rfl rfl (by have : (ByteArray.mk #[110]).size = 1 := rfl; omega)) trivial rfl ?_
                  refine o_rd (rd_assign rfl) trivial rfl ?_
                  refine runO_nil (run_seq ?_)
                  obtain ⟨nm, hnn⟩ : ∃ nm, nm = ByteArray.mk #[110] ++ s := ⟨_, rfl⟩
                  rw [← hnn]
                  have hnms : nm.size ≤ 9223372036854775807 := by
                    have : (ByteArray.mk #[110]).size = 1 := rfl
                    rw [hnn, ByteArray.size_append]
                    omega
                  refine run_drawS 8 3 [(0, true), (1, true), (2, true), (4, true), (5, true), (6, true), (3, false), (7, false), (8, false)] [(_, true), (_, true), (_, true), (_, true), (_, true), (_, true), (_, false), (_, false), (_, false)] h (Holds.cons (h.at_ 0 rfl) (Holds.nil _)) mixed (by kernel_rfl) rfl ?_
                  intro w h hK
                  refine d_rd (rd_fieldA F29_0 S24 rfl) hK trivial rfl ?_
                  refine d_ld rfl 0 rfl T24 rfl rfl hK trivial rfl ?_
                  refine d_rd (rd_move rfl) hK trivial rfl ?_
                  refine d_rd (rd_fieldA F29_1 S26 rfl) hK trivial rfl ?_
                  refine d_ld rfl 0 rfl T26 rfl rfl hK trivial rfl ?_
                  refine d_rd (rd_move rfl) hK trivial rfl ?_
                  refine d_ef trivial (ef_call (Tryd.call28) rfl rfl ?_)
                  refine FnC.mono (disk_Append (bs := []) (B := O) (fun g _ => .inl rfl) (Nat.le_refl _) (by simp) (Sat.bring 3 (Sat.bring 4 h))) ?_
                  rintro _ w ⟨rfl, h⟩
                  refine ⟨fun _ => (Holds.cons (h.at_ 2 rfl) (Holds.nil _)), ?_⟩
                  replace hK := (Holds.cons (h.at_ 2 rfl) (Holds.nil _))
                  refine d_ef trivial (ef_call (Tryd.call37) rfl rfl ?_)
                  refine FnC.mono (ref_Append (bs := []) (B := O) (fun g _ => .inl rfl) (Nat.le_refl _) (by simp) hnms (by rw [← r.len]; exact r.many) (fun f e => r.size nm f ((r.same nm).trans e)) (Sat.bring 4 (Sat.bring 1 h))) ?_
                  rintro _ w ⟨rfl, h⟩
                  refine ⟨fun _ => (Holds.cons (h.at_ 3 rfl) (Holds.nil _)), ?_⟩
                  replace hK := (Holds.cons (h.at_ 3 rfl) (Holds.nil _))
                  refine d_rd0 (Reads.to (v' := .bool false) (rd_neq rfl rfl) (by rw [(rel_append r nm []).1]; simp)) hK trivial rfl ?_
                  refine d_nil ?_
                  refine run_cond_false rfl (run_skip (run_inBlock (run_region_lit ?_)))
                  refine o_rd (rd_move rfl) trivial rfl ?_
                  refine o_rd (rd_addi rfl rfl (by constructor <;> omega)) trivial rfl ?_
                  refine o_rd (rd_assign rfl) trivial rfl ?_
                  refine runO_nil ?_
                  -- round of loop 1 path c1f.c3f.c4f.c5f.c6f.c8f.c9t.L1.c10t. L ['W', 'O', 'D', 'wb', 'ob']
                  exact run_fewer (sub_cons rfl (sub_cons rfl (sub_cons rfl (sub_nil _)))) (ih (k + 1, (D1.append nm []).1, (W1.append nm []).1) w ⟨(Sat.bring 4 (Sat.bring 4 (Sat.bring 2 (Sat.bring 1 (Sat.bring 1 h))))), (rel_append r nm []).2, by omega⟩ (by simp only []; omega))
                · refine runO_nil (run_cond_false rfl (run_exit rfl (run_inBlock (run_seq (run_region_lit ?_)))))
                  refine o_ldG rfl (h.at_ 0 rfl) G29 rfl trivial rfl ?_
                  refine o_rd (rd_fieldA F34_1 S9 rfl) trivial rfl ?_
                  refine o_ld rfl (h.at_ 1 rfl) T9 rfl rfl trivial rfl ?_
                  refine o_ef trivial (ef_call (Tryd.call33) rfl rfl ?_)
                  refine FnC.mono (law_file r (Sat.bring 3 (Sat.bring 3 h))) ?_
                  rintro _ w ⟨rfl, h⟩
                  refine o_rd (rd_assign rfl) trivial rfl ?_
                  refine runO_nil ?_
                  refine run_ret Tryd.func14 (RV.tmp rfl RV.nil) ?_
                  -- ret 7 path c1f.c3f.c4f.c5f.c6f.c8f.c9t.L1.c10f. L ['D', 'W', 'wb', 'ob', 'O']
                  exact ⟨rfl, _, _, r, (Sat.out 2 (Sat.out 3 h))⟩
              · refine o_rd (rd_assign rfl) trivial rfl ?_
                refine runO_nil (run_cond_false rfl (run_skip (run_inBlock (run_seq (run_region_lit ?_)))))
                refine o_ldG rfl (h.at_ 1 rfl) G29 rfl trivial rfl ?_
                refine o_rd (rd_fieldA F34_1 S9 rfl) trivial rfl ?_
                refine o_ld rfl (h.at_ 0 rfl) T9 rfl rfl trivial rfl ?_
                refine o_ef trivial (ef_call (Tryd.call33) rfl rfl ?_)
                refine FnC.mono (law_file r (Sat.bring 3 (Sat.bring 3 h))) ?_
                rintro _ w ⟨rfl, h⟩
                refine o_rd (rd_assign rfl) trivial rfl ?_
                refine runO_nil ?_
                refine run_ret Tryd.func14 (RV.tmp rfl RV.nil) ?_
                -- ret 8 path c1f.c3f.c4f.c5f.c6f.c8f.c9f. L ['D', 'W', 'ob', 'wb', 'O']
                exact ⟨rfl, _, _, r, (Sat.out 2 (Sat.out 3 h))⟩

theorem law_whole {b b2 : Nat} {D W : DiskV} {w : World} {R : List Hp} (r : RelD D W)
    (hN1 : ∀ (w : World) (R : List Hp), Sat w (diskR b D :: R) → FnC Tryd.prog 31 [.pointer (some ⟨b, 0, none⟩)] w fun v w' => ∃ a c, v = .slice a (sortS (keys D.files)).length c ∧ Sat w' (OwnS 9 1 (.slice a (sortS (keys D.files)).length c) (scells (sortS (keys D.files))) :: diskR b D :: R))
    (hN2 : ∀ (w : World) (R : List Hp), Sat w (refR b2 W :: R) → FnC Tryd.prog 32 [.pointer (some ⟨b2, 0, none⟩)] w fun v w' => ∃ a c, v = .slice a (sortS (keys W.files)).length c ∧ Sat w' (OwnS 9 1 (.slice a (sortS (keys W.files)).length c) (scells (sortS (keys W.files))) :: refR b2 W :: R)) (h : Sat w (diskR b D :: refR b2 W :: R)) :
    FnC Tryd.prog 13 [.agg #[.pointer (some ⟨b, 0, none⟩), .pointer (some ⟨b2, 0, none⟩)]] w fun v w' => v = .bool true ∧ Sat w' (diskR b D :: refR b2 W :: R) := by
  refine fnC_of_run Tryd.func13 rfl Tryd.ntmps13 (Nat.le_of_ble_eq_true rfl) (fun cs => ?_)
  refine run_seq (run_region_lit ?_)
  refine o_ef trivial (ef_box rfl rfl h (fun wb w h => ?_))
  replace h := Sat.conv (B := pt wb (.cells #[.pointer (some ⟨b, 0, none⟩), .pointer (some ⟨b2, 0, none⟩)] 29)) 0 h rfl (fun _ x => x)
  refine o_rd (rd_assign rfl) trivial rfl ?_
  refine runO_nil (run_seq (run_region_lit ?_))
  refine o_rd (rd_fieldA F29_0 S24 rfl) trivial rfl ?_
  refine o_ld rfl (h.at_ 0 rfl) T24 rfl rfl trivial rfl ?_
  refine o_ef trivial (ef_call (Tryd.call31) rfl rfl ?_)
  refine FnC.mono (hN1 _ _ (Sat.bring 1 h)) ?_
  rintro v9 w ⟨a5, c5, e9, h⟩
  rw [sortS_perm r.perm] at e9 h
  subst e9
  refine o_rd (rd_assign rfl) trivial rfl ?_
  refine runO_nil (run_seq (run_region_lit ?_))
  refine o_rd (rd_fieldA F29_1 S26 rfl) trivial rfl ?_
  refine o_ld rfl (h.at_ 2 rfl) T26 rfl rfl trivial rfl ?_
  refine o_ef trivial (ef_call (Tryd.call32) rfl rfl ?_)
  refine FnC.mono (hN2 _ _ (Sat.bring 3 h)) ?_
  rintro _ w ⟨a6, c6, rfl, h⟩
  obtain ⟨ns, hns⟩ : ∃ ns, ns = sortS (keys W.files) := ⟨_, rfl⟩
  rw [← hns] at h ⊢
  refine o_rd (rd_assign rfl) trivial rfl ?_
  refine runO_nil (run_seq (run_seq (run_region_lit ?_)))
  refine o_rd (rd_move rfl) trivial rfl ?_
  refine o_rd (rd_len (u := 0) T77 rfl) trivial rfl ?_
  refine o_rd (rd_move rfl) trivial rfl ?_
  refine o_rd (rd_len (u := 0) T77 rfl) trivial rfl ?_
  refine o_rd (Reads.to (v' := .bool false) (rd_neq rfl rfl) (by simp)) trivial rfl ?_
  refine runO_nil (run_cond_false rfl (run_skip (run_seq (run_seq (run_region_lit ?_)))))
  refine o_rd (rd_move rfl) trivial rfl ?_
  refine o_rd (rd_len (u := 0) T77 rfl) trivial rfl ?_
  refine o_rd (rd_move rfl) trivial rfl ?_
  refine runO_nil (run_block ?_)
  refine run_loop (σ := Nat × List ByteArray) (fun (i, xs) => [(1, .pointer (some ⟨wb, 0, none⟩)), (3, .slice a5 ns.length c5), (4, .slice a6 ns.length c6), (20, .int .i64 ns.length), (21, .int .i64 (i : Nat))]) (fun (i, xs) w => Sat w (OwnS 9 1 (.slice a5 ns.length c5) (scells xs) :: OwnS 9 1 (.slice a6 ns.length c6) (scells ns) :: pt wb (.cells #[.pointer (some ⟨b, 0, none⟩), .pointer (some ⟨b2, 0, none⟩)] 29) :: diskR b D :: refR b2 W :: R) ∧ i ≤ ns.length ∧ xs.length = ns.length ∧ ∀ j, i ≤ j → xs[j]? = ns[j]?) (fun (i, xs) => ns.length - i) (0, ns) ?_ (sub_cons rfl (sub_cons rfl (sub_cons rfl (sub_cons rfl (sub_cons rfl (sub_nil _)))))) ?_
  · exact ⟨(Sat.bring 4 (Sat.bring 3 (Sat.bring 4 (Sat.bring 3 (Sat.bring 1 h))))), Nat.zero_le _, rfl, fun _ _ => rfl⟩
  clear h
  rintro ⟨i, xs⟩ w ⟨h, hi, hxl, hxs⟩ ih
  refine run_seq (run_region_lit ?_)
  refine o_tD (rd_lss rfl rfl) trivial rfl (fun c1 => ?_) (fun c1 => ?_)
  · refine runO_nil (run_seq (run_cond_true rfl (run_skip (run_seq (run_block (run_seq (run_region_lit ?_)))))))
    refine o_rd (rd_move rfl) trivial rfl ?_
    refine o_rd (rd_assign rfl) trivial rfl ?_
    refine runO_nil (run_seq (run_seq ?_))
    obtain ⟨q1, C1, f1, ea1, rok1, h⟩ := h.ownOpen 0 rfl (by omega)
    obtain ⟨q2, C2, f2, ea2, rok2, h⟩ := h.ownOpen 1 rfl (by omega)
    subst ea1
    subst ea2
    obtain ⟨nm, hni⟩ : ∃ nm, ns[i]? = some nm := ⟨_, List.getElem?_eq_getElem (by omega)⟩
    have hxi : xs[i]? = some nm := (hxs i (Nat.le_refl _)).trans hni
    have hc5 := rok1.le
    have hc6 := rok2.le
    have hm5 := rok1.max
    refine run_drawS 17 5 [(0, true), (1, true), (2, true), (3, true), (4, true), (5, true), (6, true), (7, true), (8, true), (9, true), (10, true), (11, true), (12, true), (13, true), (14, true), (15, false), (16, true), (17, false)] [(_, true), (_, true), (_, true), (_, true), (_, true), (_, true), (_, true), (_, true), (_, true), (_, true), (_, true), (_, true), (_, true), (_, true), (_, true), (_, false), (_, true), (_, false)] h (Holds.cons (h.at_ 0 rfl) (Holds.cons (h.at_ 1 rfl) (Holds.cons (h.at_ 2 rfl) (Holds.nil _)))) mixed (by kernel_rfl) rfl ?_
    intro w h hK
    refine d_rd (rd_move rfl) hK trivial rfl ?_
    refine d_rd (rd_move rfl) hK trivial rfl ?_
    refine d_rd (rd_idx T77 S9 rfl rfl (by omega) (by omega)) hK trivial rfl ?_
    refine d_ld rfl 0 rfl T9 rfl (by rw [Nat.zero_add, Nat.mul_one]; exact (rok1.get i (by omega)).trans (scells_get hxi)) hK trivial rfl ?_
    refine d_rd (rd_move rfl) hK trivial rfl ?_
    refine d_rd (rd_move rfl) hK trivial rfl ?_
    refine d_rd (rd_idx T77 S9 rfl rfl (by omega) (by omega)) hK trivial rfl ?_
    refine d_ld rfl 1 rfl T9 rfl (by rw [Nat.zero_add, Nat.mul_one]; exact (rok2.get i (by omega)).trans (scells_get hni)) hK trivial rfl ?_
    refine d_rd (Reads.to (v' := .bool false) (rd_neqS rfl rfl) (by simp)) hK trivial rfl ?_
    refine d_rd (rd_move rfl) hK trivial rfl ?_
    refine d_ldG rfl 2 rfl G29 rfl hK rfl rfl ?_
    refine d_rd (rd_move rfl) hK rfl rfl ?_
    refine d_rd (rd_move rfl) hK rfl rfl ?_
    refine d_rd (rd_idx T77 S9 rfl rfl (by omega) (by omega)) hK rfl rfl ?_
    refine d_ld rfl 1 rfl T9 rfl (by rw [Nat.zero_add, Nat.mul_one]; exact (rok2.get i (by omega)).trans (scells_get hni)) hK rfl rfl ?_
    refine d_ef rfl (ef_call (Tryd.call33) rfl rfl ?_)
    refine FnC.mono (law_file r (Sat.bring 4 (Sat.bring 4 h))) ?_
    rintro _ w ⟨rfl, h⟩
    refine ⟨fun _ => (Holds.cons (h.at_ 2 rfl) (Holds.cons (h.at_ 3 rfl) (Holds.cons (h.at_ 4 rfl) (Holds.nil _)))), ?_⟩
    replace hK := (Holds.cons (h.at_ 2 rfl) (Holds.cons (h.at_ 3 rfl) (Holds.cons (h.at_ 4 rfl) (Holds.nil _))))
    refine d_rd (rd_not rfl) hK rfl rfl ?_
    refine d_rd0 (rd_pick_f rfl rfl) hK trivial rfl ?_
    refine d_nil ?_
    refine run_cond_false rfl (run_skip (run_region_lit ?_))
    refine o_rd (rd_move rfl) trivial rfl ?_
    refine o_rd (rd_move rfl) trivial rfl ?_
    refine o_rd (rd_idx T77 S9 rfl rfl (by omega) (by omega)) trivial rfl ?_
    refine o_ef trivial (ef_store S9 2 rfl rfl h rfl rfl rfl (by have := rok1.size; omega) (rok1.fok _ _ (by omega)) (fun w h => ?_))
    refine runO_nil (run_inBlock (run_region_lit ?_))
    refine o_rd (rd_addi rfl rfl (by constructor <;> omega)) trivial rfl ?_
    refine o_rd (rd_move rfl) trivial rfl ?_
    refine runO_nil ?_
    -- round of loop 0 path L0.c1t. L ['D', 'W', 'o1', 'o2', 'wb']
    have rok3 := rok1.set (0 + i * 1) (.string (ByteArray.mk #[33]))
    rw [show (scells xs).set (0 + i * 1) (Value.string (ByteArray.mk #[33])) = scells (xs.set i (ByteArray.mk #[33])) by rw [Nat.zero_add, Nat.mul_one]; exact (scells_set xs i _).symm] at rok3
    replace h := h.ownClose 2 rfl rok3
    replace h := h.ownClose 3 rfl rok2
    exact run_fewer (sub_cons rfl (sub_cons rfl (sub_cons rfl (sub_cons rfl (sub_cons rfl (sub_nil _)))))) (ih (i + 1, xs.set i (ByteArray.mk #[33])) w ⟨(Sat.bring 4 (Sat.bring 4 (Sat.bring 4 (Sat.bring 1 (Sat.bring 1 h))))), by omega, by rw [List.length_set]; exact hxl, fun j hj => by rw [List.getElem?_set_ne (by omega)]; exact hxs j (by omega)⟩ (by simp only []; omega))
  · refine runO_nil (run_seq (run_cond_false rfl (run_exit rfl (run_seq (run_region_lit ?_)))))
    refine o_rd (rd_fieldA F29_0 S24 rfl) trivial rfl ?_
    refine o_ld rfl (h.at_ 2 rfl) T24 rfl rfl trivial rfl ?_
    refine o_ef trivial (ef_call (Tryd.call34) rfl rfl ?_)
    refine FnC.mono (disk_Cutting (Sat.bring 3 h)) ?_
    rintro _ w ⟨rfl, h⟩
    refine o_rd (rd_move rfl) trivial rfl ?_
    refine o_rd (rd_extract rfl rfl) trivial rfl ?_
    refine o_rd (rd_extract rfl rfl) trivial rfl ?_
    refine o_rd (rd_assign rfl) trivial rfl ?_
    refine o_rd (rd_assign rfl) trivial rfl ?_
    refine runO_nil (run_seq (run_seq ?_))
    obtain ⟨a, n, c, gs, hcut, hn, hnc, hcm, hkg, h⟩ := refR_open (Sat.bring 4 (Sat.bring 3 (Sat.bring 3 (Sat.bring 3 (Sat.bring 3 h)))))
    subst hn
    refine run_region_lit ?_
    refine o_rd (rd_move rfl) trivial rfl ?_
    refine o_rd (rd_fieldA F29_1 S26 rfl) trivial rfl ?_
    refine o_ld rfl (h.at_ 6 rfl) T26 rfl rfl trivial rfl ?_
    refine o_rd (rd_nil rfl) trivial rfl ?_
    refine o_rd (rd_fieldA F73_2 S3 rfl) trivial rfl ?_
    refine o_ld rfl (h.at_ 0 rfl) T3 rfl rfl trivial rfl ?_
    refine o_rd (rd_geq rfl rfl) trivial rfl ?_
    refine o_rd (Reads.to (v' := .bool false) (rd_neqB T4 rfl rfl) (by rw [show _ = true from rel_left r]; rfl)) trivial rfl ?_
    refine o_rd (rd_move rfl) trivial rfl ?_
    refine o_rd (rd_move rfl) rfl rfl ?_
    refine o_rd (rd_fieldA F29_1 S26 rfl) rfl rfl ?_
    refine o_ld rfl (h.at_ 6 rfl) T26 rfl rfl rfl rfl ?_
    refine o_rd (rd_nil rfl) rfl rfl ?_
    refine o_rd (rd_fieldA F73_2 S3 rfl) rfl rfl ?_
    refine o_ld rfl (h.at_ 0 rfl) T3 rfl rfl rfl rfl ?_
    refine o_rd (rd_max rfl rfl) rfl rfl ?_
    refine o_rd (Reads.to (v' := .bool false) (rd_neq rfl rfl) (by rw [decide_eq_true (rel_max r)]; rfl)) rfl rfl ?_
    refine o_rd (rd_pick_f rfl rfl) trivial rfl ?_
    refine runO_nil (run_cond_false rfl (run_skip (run_seq ?_)))
    refine run_drawS 9 1 [(0, true), (1, true), (3, true), (4, true), (5, true), (6, true), (7, true), (2, false), (8, true), (9, false)] [(_, true), (_, true), (_, true), (_, true), (_, true), (_, true), (_, true), (_, false), (_, true), (_, false)] h (Holds.cons (h.at_ 6 rfl) (Holds.cons (h.at_ 0 rfl) (Holds.nil _))) mixed (by kernel_rfl) rfl ?_
    intro w h hK
    refine d_rd (rd_fieldA F29_0 S24 rfl) hK trivial rfl ?_
    refine d_ld rfl 0 rfl T24 rfl rfl hK trivial rfl ?_
    refine d_rd (rd_fieldA F29_1 S26 rfl) hK trivial rfl ?_
    refine d_ld rfl 0 rfl T26 rfl rfl hK trivial rfl ?_
    refine d_rd (rd_nil rfl) hK trivial rfl ?_
    refine d_rd (rd_fieldA F73_1 S3 rfl) hK trivial rfl ?_
    refine d_ld rfl 1 rfl T3 rfl rfl hK trivial rfl ?_
    refine d_ef trivial (ef_call (Tryd.call20) rfl rfl ?_)
    refine FnC.mono (disk_Writes (Sat.bring 3 h)) ?_
    rintro _ w ⟨rfl, h⟩
    refine ⟨fun _ => (Holds.cons (h.at_ 6 rfl) (Holds.cons (h.at_ 1 rfl) (Holds.nil _))), ?_⟩
    replace hK := (Holds.cons (h.at_ 6 rfl) (Holds.cons (h.at_ 1 rfl) (Holds.nil _)))
    refine d_rd (Reads.to (v' := .bool true) (rd_eql rfl rfl) (by rw [decide_eq_true r.writes])) hK trivial rfl ?_
    refine d_rd0 (rd_assign rfl) hK trivial rfl ?_
    refine d_nil ?_
    refine run_ret Tryd.func13 (RV.tmp rfl RV.nil) ?_
    -- ret 0 path L0.c1f. L ['D', 'w', 'fl', 'vals', 'o1', 'o2', 'wb']
    exact ⟨rfl, Sat.swap (refR_close hcut (Sat.bring 3 (Sat.bring 3 (Sat.bring 3 (Sat.out 4 (Sat.out 5 (Sat.out 6 h)))))))⟩

theorem law_DiskDoes {O : Hp} {a : Option Addr} {c : Nat} {ops : List OpV} {w : World} {R : List Hp} (hO : ∀ g, O g → RowH g a (ocells ops)) (hops : ∀ o, o ∈ ops → OkOp O o) (hc : ops.length ≤ c) (hcm : c ≤ 9223372036854775807)
    (hit : ∀ (n : Nat) (w : World), n < 260 → (∃ g, hsub g (hof w) ∧ O g) → FnC Tryd.prog 44 [.int .i64 n] w fun v w' => ∃ s, v = .string s ∧ s.size ≤ 100 ∧ ∀ (i : Nat) (x : Obj), w.heap[i]? = some x → w'.heap[i]? = some x)
    (hN1 : ∀ (b : Nat) (D : DiskV) (w : World) (R : List Hp), D.files.length ≤ 256 → Sat w (diskR b D :: R) → FnC Tryd.prog 31 [.pointer (some ⟨b, 0, none⟩)] w fun v w' => ∃ a c, v = .slice a (sortS (keys D.files)).length c ∧ Sat w' (OwnS 9 1 (.slice a (sortS (keys D.files)).length c) (scells (sortS (keys D.files))) :: diskR b D :: R))
    (hN2 : ∀ (b : Nat) (W : DiskV) (w : World) (R : List Hp), W.files.length ≤ 256 → Sat w (refR b W :: R) → FnC Tryd.prog 32 [.pointer (some ⟨b, 0, none⟩)] w fun v w' => ∃ a c, v = .slice a (sortS (keys W.files)).length c ∧ Sat w' (OwnS 9 1 (.slice a (sortS (keys W.files)).length c) (scells (sortS (keys W.files))) :: refR b W :: R)) (h : Sat w (O :: R)) :
    FnC Tryd.prog 3 [.slice a ops.length c] w fun v w' => v = .bool true ∧ Sat w' (O :: R) := by
  refine fnC_of_run Tryd.func3 rfl Tryd.ntmps3 (Nat.le_of_ble_eq_true rfl) (fun cs => ?_)
  refine run_seq (run_region_lit ?_)
  refine o_rd (rd_assign rfl) trivial rfl ?_
  refine runO_nil (run_seq (run_seq (run_region_lit ?_)))
  refine o_ef trivial (ef_call (Tryd.call7) rfl rfl ?_)
  refine FnC.mono (law_wakes h) ?_
  rintro _ w ⟨rfl, h⟩
  refine o_rd (rd_not rfl) trivial rfl ?_
  refine runO_nil (run_cond_false rfl (run_skip (run_seq (run_region_lit ?_))))
  refine o_ef trivial (ef_call (Tryd.call8) rfl rfl ?_)
  refine FnC.mono (disk_New h) ?_
  rintro _ w ⟨b0, rfl, h⟩
  refine o_ef trivial (ef_call (Tryd.call9) rfl rfl ?_)
  refine FnC.mono (ref_New h) ?_
  rintro _ w ⟨e0, rfl, h⟩
  refine o_rd (rd_build B29 rfl rfl) trivial rfl ?_
  refine o_ef trivial (ef_call (Tryd.call8) rfl rfl ?_)
  refine FnC.mono (disk_New h) ?_
  rintro _ w ⟨b1, rfl, h⟩
  refine o_ef trivial (ef_call (Tryd.call9) rfl rfl ?_)
  refine FnC.mono (ref_New h) ?_
  rintro _ w ⟨e1, rfl, h⟩
  refine o_rd (rd_build B29 rfl rfl) trivial rfl ?_
  refine o_rd (rd_buildA T30 S29 rfl rfl) trivial rfl ?_
  refine o_ef trivial (ef_alloc S30 rfl h (fun arr w h => ?_))
  refine o_ef trivial (ef_store S30 0 rfl rfl h rfl rfl rfl (Nat.le_of_ble_eq_true rfl) rfl (fun w h => ?_))
  replace h := Sat.conv (B := pt arr (.cells #[.pointer (some ⟨b0, 0, none⟩), .pointer (some ⟨e0, 0, none⟩), .pointer (some ⟨b1, 0, none⟩), .pointer (some ⟨e1, 0, none⟩)] 30)) 0 h rfl (fun _ x => x)
  refine runO_nil (run_seq (run_seq (run_region_lit ?_)))
  refine o_rd (rd_move rfl) trivial rfl ?_
  refine o_ef trivial (ef_call (Tryd.call10) rfl rfl ?_)
  refine FnC.mono (law_script hO hops hc hcm (Sat.bring 5 h)) ?_
  rintro _ w ⟨a5, c5, rfl, h⟩
  obtain ⟨os, hos⟩ : ∃ os, os = (ops.take 60).map cutOp := ⟨_, rfl⟩
  rw [← hos] at h ⊢
  have hok : ∀ o, o ∈ os → OkOp O o := fun o ho => by
    rw [hos] at ho
    obtain ⟨o2, h2, rfl⟩ := List.mem_map.1 ho
    exact (hops o2 (List.mem_of_mem_take h2)).cut
  have hol : os.length ≤ 60 := by rw [hos]; simp; omega
  obtain ⟨_, _, _, e5, _, hc5, hm5, _⟩ := Sat.ownRow 0 h rfl
  cases e5
  refine o_rd (rd_len (u := 0) T22 rfl) trivial rfl ?_
  refine o_rd (rd_move rfl) trivial rfl ?_
  refine runO_nil (run_block ?_)
  refine run_loop (σ := Nat × Nat × Nat × Nat × Nat × DiskV × DiskV × DiskV × DiskV) (fun (i, b0, e0, b1, e1, D0, W0, D1, W1) => [(3, .pointer (some ⟨arr, 0, none⟩)), (17, .slice a5 os.length c5), (18, .int .i64 os.length), (19, .int .i64 (i : Nat))]) (fun (i, b0, e0, b1, e1, D0, W0, D1, W1) w => Sat w (pt arr (.cells #[.pointer (some ⟨b0, 0, none⟩), .pointer (some ⟨e0, 0, none⟩), .pointer (some ⟨b1, 0, none⟩), .pointer (some ⟨e1, 0, none⟩)] 30) :: diskR b0 D0 :: refR e0 W0 :: diskR b1 D1 :: refR e1 W1 :: OwnS 34 5 (.slice a5 os.length c5) (ocells os) :: O :: R) ∧ RelD D0 W0 ∧ RelD D1 W1 ∧ i ≤ os.length) (fun (i, b0, e0, b1, e1, D0, W0, D1, W1) => os.length - i) (0, b0, e0, b1, e1, ⟨[], 0, 0, false⟩, ⟨[], 0, 0, false⟩, ⟨[], 0, 0, false⟩, ⟨[], 0, 0, false⟩) ?_ (sub_cons rfl (sub_cons rfl (sub_cons rfl (sub_cons rfl (sub_nil _))))) ?_
  · exact ⟨(Sat.bring 6 (Sat.bring 6 (Sat.bring 5 (Sat.bring 4 (Sat.bring 3 (Sat.bring 1 (Sat.bring 1 h))))))), rel_new, rel_new, Nat.zero_le _⟩
  clear h
  rintro ⟨i, b0, e0, b1, e1, D0, W0, D1, W1⟩ w ⟨h, r0, r1, hi⟩ ih
  refine run_seq (run_region_lit ?_)
  refine o_tD (rd_lss rfl rfl) trivial rfl (fun c1 => ?_) (fun c1 => ?_)
  · refine runO_nil (run_seq (run_cond_true rfl (run_skip (run_seq (run_block (run_seq ?_))))))
    obtain ⟨bb, p, C, E, fr, o, ea, hoi, hb, hcp⟩ := op_at 5 h rfl own_rows (i := i) (by omega)
    have hoo := hok o (List.mem_of_getElem? hoi)
    obtain ⟨kind, name, dst, n, ba, bn, bcap, bytes⟩ := o
    obtain ⟨hlen, hcap, hmax, hroom, hnm, htm, hlo, hhi, hklo, hkhi, hrow⟩ := hoo
    replace hlen : bn = bytes.length := hlen
    subst hlen
    subst ea
    refine run_region_lit ?_
    refine o_rd (rd_move rfl) trivial rfl ?_
    refine o_rd (rd_idx T22 S34 rfl rfl (by omega) (by omega)) trivial rfl ?_
    refine o_ldG rfl hb G34 hcp trivial rfl ?_
    refine o_ef trivial (ef_alloc S34 rfl h (fun t w h => ?_))
    refine o_rd (rd_assign rfl) trivial rfl ?_
    refine o_ef trivial (ef_store S34 0 rfl rfl h rfl rfl rfl (Nat.le_of_ble_eq_true rfl) rfl (fun w h => ?_))
    replace h := Sat.conv (B := pt t (.cells #[.int .i64 kind, .string name, .string dst, .int .i64 n, .slice ba bytes.length bcap] 34)) 0 h rfl (fun _ x => x)
    refine runO_nil (run_seq (run_region_lit ?_))
    refine o_rd (rd_assign rfl) trivial rfl ?_
    refine runO_nil (run_seq (run_seq (run_region_lit ?_)))
    refine o_rd (rd_move rfl) trivial rfl ?_
    refine o_rd (rd_rem rfl rfl (by omega) (by omega)) trivial rfl ?_
    refine o_tD (rd_eql rfl rfl) trivial rfl (fun c2 => ?_) (fun c2 => ?_)
    · refine runO_nil (run_cond_true rfl (run_region_lit ?_))
      refine o_rd (rd_assign rfl) trivial rfl ?_
      refine runO_nil (run_seq (run_seq (run_region_lit ?_)))
      refine o_rd (rd_move rfl) trivial rfl ?_
      refine o_rd (rd_idxA T30 S29 rfl rfl (by omega) (by omega)) trivial rfl ?_
      refine o_rd (rd_fieldA F29_0 S24 rfl) trivial rfl ?_
      refine o_ld rfl (h.at_ 1 rfl) T24 rfl rfl trivial rfl ?_
      refine o_rd (rd_eqlP0 T24 rfl rfl) trivial rfl ?_
      refine runO_nil (run_cond_false rfl (run_skip (run_seq (run_seq (run_region_lit ?_)))))
      refine o_rd (rd_fieldA F34_0 S3 rfl) trivial rfl ?_
      refine o_ld rfl (h.at_ 0 rfl) T3 rfl rfl trivial rfl ?_
      refine o_rd (rd_conv T3 T35 rfl) trivial rfl ?_
      refine o_rd (rd_rem rfl rfl (u64_nonneg _) (by omega)) trivial rfl ?_
      refine o_tD (rd_eql rfl rfl) trivial rfl (fun c3 => ?_) (fun c3 => ?_)
      · refine runO_nil (run_cond_true rfl (run_seq ?_))
        refine run_drawS 14 1 [(0, true), (1, true), (2, true), (3, true), (4, true), (5, true), (7, true), (8, true), (9, true), (10, true), (6, false), (11, false), (12, true), (13, true), (14, false)] [(_, true), (_, true), (_, true), (_, true), (_, true), (_, true), (_, true), (_, true), (_, true), (_, true), (_, false), (_, false), (_, true), (_, true), (_, false)] h (Holds.cons (h.at_ 1 rfl) (Holds.nil _)) mixed (by kernel_rfl) rfl ?_
        intro w h hK
        refine d_rd (rd_move rfl) hK trivial rfl ?_
        refine d_rd (rd_subi rfl rfl (by constructor <;> omega)) hK trivial rfl ?_
        refine d_rd (rd_move rfl) hK trivial rfl ?_
        refine d_rd (rd_idxA T30 S29 rfl rfl (by omega) (by omega)) hK trivial rfl ?_
        refine d_rd (rd_fieldA F29_0 S24 rfl) hK trivial rfl ?_
        refine d_ld rfl 0 rfl T24 rfl rfl hK trivial rfl ?_
        refine d_rd (rd_move rfl) hK trivial rfl ?_
        refine d_rd (rd_idxA T30 S29 rfl rfl (by omega) (by omega)) hK trivial rfl ?_
        refine d_rd (rd_fieldA F29_1 S26 rfl) hK trivial rfl ?_
        refine d_ld rfl 0 rfl T26 rfl rfl hK trivial rfl ?_
        refine d_ef trivial (ef_call (Tryd.call11) rfl rfl ?_)
        refine FnC.mono (disk_Copy (fun k f e => r1.small k f e) r1.nd (Sat.bring 4 h)) ?_
        rintro _ w ⟨bn, fs, rfl, hp, hsm, h⟩
        refine ⟨fun _ => (Holds.cons (h.at_ 3 rfl) (Holds.nil _)), ?_⟩
        replace hK := (Holds.cons (h.at_ 3 rfl) (Holds.nil _))
        refine d_ef trivial (ef_call (Tryd.call12) rfl rfl ?_)
        refine FnC.mono (ref_Copy (by rw [← r1.len]; exact Nat.le_trans r1.many (by decide)) (ref_small r1) (Sat.bring 6 h)) ?_
        rintro _ w ⟨en, rfl, h⟩
        have rn := rel_copy r1 hp hsm
        refine ⟨fun _ => (Holds.cons (h.at_ 5 rfl) (Holds.nil _)), ?_⟩
        replace hK := (Holds.cons (h.at_ 5 rfl) (Holds.nil _))
        refine d_rd (rd_build B29 rfl rfl) hK trivial rfl ?_
        refine d_rd (rd_idxA T30 S29 rfl rfl (by omega) (by omega)) hK trivial rfl ?_
        refine d_ef trivial (ef_store S29 5 rfl rfl h rfl rfl rfl (Nat.le_of_ble_eq_true rfl) rfl (fun w h => ?_))
        refine ⟨fun e => absurd rfl e, ?_⟩
        refine d_nil ?_
        refine run_seq (run_seq (run_region_lit ?_))
        refine o_rd (rd_move rfl) trivial rfl ?_
        refine o_rd (rd_subi rfl rfl (by constructor <;> omega)) trivial rfl ?_
        refine o_rd (rd_idxA T30 S29 rfl rfl (by omega) (by omega)) trivial rfl ?_
        refine o_rd (rd_fieldA F29_0 S24 rfl) trivial rfl ?_
        refine o_ld rfl (h.at_ 5 rfl) T24 rfl rfl trivial rfl ?_
        refine o_rd (rd_eqlP0 T24 rfl rfl) trivial rfl ?_
        refine o_rd (rd_move rfl) trivial rfl ?_
        refine o_rd (rd_move rfl) rfl rfl ?_
        refine o_rd (rd_subi rfl rfl (by constructor <;> omega)) rfl rfl ?_
        refine o_rd (rd_idxA T30 S29 rfl rfl (by omega) (by omega)) rfl rfl ?_
        refine o_ldG rfl (h.at_ 5 rfl) G29 rfl rfl rfl ?_
        refine o_ef rfl (ef_call (Tryd.call13) rfl rfl ?_)
        refine FnC.mono (law_whole rn (fun w R => hN1 _ _ w R rn.many) (fun w R => hN2 _ _ w R (by rw [← rn.len]; exact rn.many)) (Sat.bring 2 h)) ?_
        rintro _ w ⟨rfl, h⟩
        refine o_rd (rd_not rfl) rfl rfl ?_
        refine o_rd (rd_pick_f rfl rfl) trivial rfl ?_
        refine runO_nil (run_cond_false rfl (run_skip (run_exit rfl (run_region_lit ?_))))
        refine o_rd (rd_addi rfl rfl (by constructor <;> omega)) trivial rfl ?_
        refine o_rd (rd_move rfl) trivial rfl ?_
        refine runO_nil ?_
        -- round of loop 0 path L0.c1t.c2t.c3t. L ['Dn', 'Wn', 'W1', 'D1', 't', 'arr', 'D0', 'W0', 'own', 'O']
        exact run_fewer (sub_cons rfl (sub_cons rfl (sub_cons rfl (sub_cons rfl (sub_nil _))))) (ih (i + 1, bn, en, b1, e1, ⟨fs, 0, 0, false⟩, ⟨W1.files, 0, 0, false⟩, D1, W1) w ⟨(Sat.bring 6 (Sat.bring 5 (Sat.bring 5 (Sat.bring 5 (Sat.bring 4 (Sat.bring 6 (Sat.bring 6 (Sat.out 4 (Sat.out 6 (Sat.out 7 h)))))))))), rn, r1, by omega⟩ (by simp only []; omega))
      · refine runO_nil (run_cond_false rfl (run_skip (run_seq ?_)))
        refine run_drawS 5 4 [(0, true), (1, true), (2, true), (3, true), (4, false), (5, false)] [(_, true), (_, true), (_, true), (_, true), (_, false), (_, false)] h (Holds.cons (h.at_ 1 rfl) (Holds.cons (h.at_ 0 rfl) (Holds.nil _))) mixed (by kernel_rfl) rfl ?_
        intro w h hK
        refine d_rd (rd_move rfl) hK trivial rfl ?_
        refine d_rd (rd_idxA T30 S29 rfl rfl (by omega) (by omega)) hK trivial rfl ?_
        refine d_ldG rfl 0 rfl G29 rfl hK trivial rfl ?_
        refine d_ldG rfl 1 rfl G34 rfl hK trivial rfl ?_
        refine d_ef trivial (ef_call (Tryd.call14) rfl rfl ?_)
        refine FnC.mono (law_does r1 hrow hcap hmax hroom hnm htm hlo hhi hit (Sat.bring 6 (Sat.bring 6 (Sat.bring 7 h)))) ?_
        rintro _ w ⟨rfl, Da, Wa, ra, h⟩
        refine ⟨fun _ => (Holds.cons (h.at_ 4 rfl) (Holds.cons (h.at_ 3 rfl) (Holds.nil _))), ?_⟩
        replace hK := (Holds.cons (h.at_ 4 rfl) (Holds.cons (h.at_ 3 rfl) (Holds.nil _)))
        refine d_rd0 (rd_not rfl) hK trivial rfl ?_
        refine d_nil ?_
        refine run_cond_false rfl (run_skip (run_inBlock (run_region_lit ?_)))
        refine o_rd (rd_addi rfl rfl (by constructor <;> omega)) trivial rfl ?_
        refine o_rd (rd_move rfl) trivial rfl ?_
        refine runO_nil ?_
        -- round of loop 0 path L0.c1t.c2t.c3f. L ['D1', 'W1', 'O', 't', 'arr', 'D0', 'W0', 'own']
        exact run_fewer (sub_cons rfl (sub_cons rfl (sub_cons rfl (sub_cons rfl (sub_nil _))))) (ih (i + 1, b0, e0, b1, e1, D0, W0, Da, Wa) w ⟨(Sat.bring 6 (Sat.bring 6 (Sat.bring 6 (Sat.bring 3 (Sat.bring 3 (Sat.bring 6 (Sat.bring 2 (Sat.out 3 h)))))))), r0, ra, by omega⟩ (by simp only []; omega))
    · refine runO_nil (run_cond_false rfl (run_skip (run_seq (run_seq (run_region_lit ?_)))))
      refine o_rd (rd_move rfl) trivial rfl ?_
      refine o_rd (rd_idxA T30 S29 rfl rfl (by omega) (by omega)) trivial rfl ?_
      refine o_rd (rd_fieldA F29_0 S24 rfl) trivial rfl ?_
      refine o_ld rfl (h.at_ 1 rfl) T24 rfl rfl trivial rfl ?_
      refine o_rd (rd_eqlP0 T24 rfl rfl) trivial rfl ?_
      refine runO_nil (run_cond_false rfl (run_skip (run_seq (run_seq (run_region_lit ?_)))))
      refine o_rd (rd_fieldA F34_0 S3 rfl) trivial rfl ?_
      refine o_ld rfl (h.at_ 0 rfl) T3 rfl rfl trivial rfl ?_
      refine o_rd (rd_conv T3 T35 rfl) trivial rfl ?_
      refine o_rd (rd_rem rfl rfl (u64_nonneg _) (by omega)) trivial rfl ?_
      refine o_tD (rd_eql rfl rfl) trivial rfl (fun c4 => ?_) (fun c4 => ?_)
      · refine runO_nil (run_cond_true rfl (run_seq ?_))
        refine run_drawS 14 1 [(0, true), (1, true), (2, true), (3, true), (4, true), (5, true), (7, true), (8, true), (9, true), (10, true), (6, false), (11, false), (12, true), (13, true), (14, false)] [(_, true), (_, true), (_, true), (_, true), (_, true), (_, true), (_, true), (_, true), (_, true), (_, true), (_, false), (_, false), (_, true), (_, true), (_, false)] h (Holds.cons (h.at_ 1 rfl) (Holds.nil _)) mixed (by kernel_rfl) rfl ?_
        intro w h hK
        refine d_rd (rd_move rfl) hK trivial rfl ?_
        refine d_rd (rd_subi rfl rfl (by constructor <;> omega)) hK trivial rfl ?_
        refine d_rd (rd_move rfl) hK trivial rfl ?_
        refine d_rd (rd_idxA T30 S29 rfl rfl (by omega) (by omega)) hK trivial rfl ?_
        refine d_rd (rd_fieldA F29_0 S24 rfl) hK trivial rfl ?_
        refine d_ld rfl 0 rfl T24 rfl rfl hK trivial rfl ?_
        refine d_rd (rd_move rfl) hK trivial rfl ?_
        refine d_rd (rd_idxA T30 S29 rfl rfl (by omega) (by omega)) hK trivial rfl ?_
        refine d_rd (rd_fieldA F29_1 S26 rfl) hK trivial rfl ?_
        refine d_ld rfl 0 rfl T26 rfl rfl hK trivial rfl ?_
        refine d_ef trivial (ef_call (Tryd.call11) rfl rfl ?_)
        refine FnC.mono (disk_Copy (fun k f e => r0.small k f e) r0.nd (Sat.bring 2 h)) ?_
        rintro _ w ⟨bn, fs, rfl, hp, hsm, h⟩
        refine ⟨fun _ => (Holds.cons (h.at_ 3 rfl) (Holds.nil _)), ?_⟩
        replace hK := (Holds.cons (h.at_ 3 rfl) (Holds.nil _))
        refine d_ef trivial (ef_call (Tryd.call12) rfl rfl ?_)
        refine FnC.mono (ref_Copy (by rw [← r0.len]; exact Nat.le_trans r0.many (by decide)) (ref_small r0) (Sat.bring 4 h)) ?_
        rintro _ w ⟨en, rfl, h⟩
        have rn := rel_copy r0 hp hsm
        refine ⟨fun _ => (Holds.cons (h.at_ 5 rfl) (Holds.nil _)), ?_⟩
        replace hK := (Holds.cons (h.at_ 5 rfl) (Holds.nil _))
        refine d_rd (rd_build B29 rfl rfl) hK trivial rfl ?_
        refine d_rd (rd_idxA T30 S29 rfl rfl (by omega) (by omega)) hK trivial rfl ?_
        refine d_ef trivial (ef_store S29 5 rfl rfl h rfl rfl rfl (Nat.le_of_ble_eq_true rfl) rfl (fun w h => ?_))
        refine ⟨fun e => absurd rfl e, ?_⟩
        refine d_nil ?_
        refine run_seq (run_seq (run_region_lit ?_))
        refine o_rd (rd_move rfl) trivial rfl ?_
        refine o_rd (rd_subi rfl rfl (by constructor <;> omega)) trivial rfl ?_
        refine o_rd (rd_idxA T30 S29 rfl rfl (by omega) (by omega)) trivial rfl ?_
        refine o_rd (rd_fieldA F29_0 S24 rfl) trivial rfl ?_
        refine o_ld rfl (h.at_ 5 rfl) T24 rfl rfl trivial rfl ?_
        refine o_rd (rd_eqlP0 T24 rfl rfl) trivial rfl ?_
        refine o_rd (rd_move rfl) trivial rfl ?_
        refine o_rd (rd_move rfl) rfl rfl ?_
        refine o_rd (rd_subi rfl rfl (by constructor <;> omega)) rfl rfl ?_
        refine o_rd (rd_idxA T30 S29 rfl rfl (by omega) (by omega)) rfl rfl ?_
        refine o_ldG rfl (h.at_ 5 rfl) G29 rfl rfl rfl ?_
        refine o_ef rfl (ef_call (Tryd.call13) rfl rfl ?_)
        refine FnC.mono (law_whole rn (fun w R => hN1 _ _ w R rn.many) (fun w R => hN2 _ _ w R (by rw [← rn.len]; exact rn.many)) (Sat.bring 2 h)) ?_
        rintro _ w ⟨rfl, h⟩
        refine o_rd (rd_not rfl) rfl rfl ?_
        refine o_rd (rd_pick_f rfl rfl) trivial rfl ?_
        refine runO_nil (run_cond_false rfl (run_skip (run_exit rfl (run_region_lit ?_))))
        refine o_rd (rd_addi rfl rfl (by constructor <;> omega)) trivial rfl ?_
        refine o_rd (rd_move rfl) trivial rfl ?_
        refine runO_nil ?_
        -- round of loop 0 path L0.c1t.c2f.c4t. L ['Dn', 'Wn', 'W0', 'D0', 't', 'arr', 'D1', 'W1', 'own', 'O']
        exact run_fewer (sub_cons rfl (sub_cons rfl (sub_cons rfl (sub_cons rfl (sub_nil _))))) (ih (i + 1, b0, e0, bn, en, D0, W0, ⟨fs, 0, 0, false⟩, ⟨W0.files, 0, 0, false⟩) w ⟨(Sat.bring 6 (Sat.bring 5 (Sat.bring 4 (Sat.bring 3 (Sat.bring 3 (Sat.bring 6 (Sat.bring 6 (Sat.out 4 (Sat.out 6 (Sat.out 7 h)))))))))), r0, rn, by omega⟩ (by simp only []; omega))
      · refine runO_nil (run_cond_false rfl (run_skip (run_seq ?_)))
        refine run_drawS 5 4 [(0, true), (1, true), (2, true), (3, true), (4, false), (5, false)] [(_, true), (_, true), (_, true), (_, true), (_, false), (_, false)] h (Holds.cons (h.at_ 1 rfl) (Holds.cons (h.at_ 0 rfl) (Holds.nil _))) mixed (by kernel_rfl) rfl ?_
        intro w h hK
        refine d_rd (rd_move rfl) hK trivial rfl ?_
        refine d_rd (rd_idxA T30 S29 rfl rfl (by omega) (by omega)) hK trivial rfl ?_
        refine d_ldG rfl 0 rfl G29 rfl hK trivial rfl ?_
        refine d_ldG rfl 1 rfl G34 rfl hK trivial rfl ?_
        refine d_ef trivial (ef_call (Tryd.call14) rfl rfl ?_)
        refine FnC.mono (law_does r0 hrow hcap hmax hroom hnm htm hlo hhi hit (Sat.bring 4 (Sat.bring 4 (Sat.bring 7 h)))) ?_
        rintro _ w ⟨rfl, Da, Wa, ra, h⟩
        refine ⟨fun _ => (Holds.cons (h.at_ 4 rfl) (Holds.cons (h.at_ 3 rfl) (Holds.nil _))), ?_⟩
        replace hK := (Holds.cons (h.at_ 4 rfl) (Holds.cons (h.at_ 3 rfl) (Holds.nil _)))
        refine d_rd0 (rd_not rfl) hK trivial rfl ?_
        refine d_nil ?_
        refine run_cond_false rfl (run_skip (run_inBlock (run_region_lit ?_)))
        refine o_rd (rd_addi rfl rfl (by constructor <;> omega)) trivial rfl ?_
        refine o_rd (rd_move rfl) trivial rfl ?_
        refine runO_nil ?_
        -- round of loop 0 path L0.c1t.c2f.c4f. L ['D0', 'W0', 'O', 't', 'arr', 'D1', 'W1', 'own']
        exact run_fewer (sub_cons rfl (sub_cons rfl (sub_cons rfl (sub_cons rfl (sub_nil _))))) (ih (i + 1, b0, e0, b1, e1, Da, Wa, D1, W1) w ⟨(Sat.bring 6 (Sat.bring 5 (Sat.bring 5 (Sat.bring 6 (Sat.bring 6 (Sat.bring 6 (Sat.bring 2 (Sat.out 3 h)))))))), ra, r1, by omega⟩ (by simp only []; omega))
  · refine runO_nil (run_seq (run_cond_false rfl (run_exit rfl (run_seq (run_region_lit ?_)))))
    refine o_rd (rd_idxA T30 S29 rfl rfl (by omega) (by omega)) trivial rfl ?_
    refine o_ldG rfl (h.at_ 0 rfl) G29 rfl trivial rfl ?_
    refine o_ef trivial (ef_call (Tryd.call13) rfl rfl ?_)
    refine FnC.mono (law_whole r0 (fun w R => hN1 _ _ w R r0.many) (fun w R => hN2 _ _ w R (by rw [← r0.len]; exact r0.many)) (Sat.bring 2 (Sat.bring 2 h))) ?_
    rintro _ w ⟨rfl, h⟩
    refine o_rd (rd_move rfl) trivial rfl ?_
    refine o_rd (rd_idxA T30 S29 rfl rfl (by omega) (by omega)) rfl rfl ?_
    refine o_ldG rfl (h.at_ 2 rfl) G29 rfl rfl rfl ?_
    refine o_ef rfl (ef_call (Tryd.call13) rfl rfl ?_)
    refine FnC.mono (law_whole r1 (fun w R => hN1 _ _ w R r1.many) (fun w R => hN2 _ _ w R (by rw [← r1.len]; exact r1.many)) (Sat.bring 4 (Sat.bring 4 h))) ?_
    rintro _ w ⟨rfl, h⟩
    refine o_rd (rd_pick_t rfl rfl) trivial rfl ?_
    refine o_rd (rd_move rfl) trivial rfl ?_
    refine o_ef rfl (ef_call (Tryd.call7) rfl rfl ?_)
    refine FnC.mono (law_wakes h) ?_
    rintro _ w ⟨rfl, h⟩
    refine o_rd (rd_pick_t rfl rfl) trivial rfl ?_
    refine o_rd (rd_assign rfl) trivial rfl ?_
    refine runO_nil ?_
    refine run_ret Tryd.func3 (RV.tmp rfl RV.nil) ?_
    -- ret 0 path L0.c1f. L ['D1', 'W1', 'D0', 'W0', 'arr', 'own', 'O']
    exact ⟨rfl, (Sat.out 0 (Sat.out 1 (Sat.out 2 (Sat.out 3 (Sat.out 4 (Sat.out 5 h))))))⟩

end Go.Proofs.YtmhpgdpegneejaaDoor
