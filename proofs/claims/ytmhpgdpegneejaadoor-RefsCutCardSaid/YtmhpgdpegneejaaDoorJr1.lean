import Derived.Test.YtmhpgdpegneejaaDoorJr0
import Derived.Test.YtmhpgdpegneejaaDoorOc1
set_option maxRecDepth 100000
set_option linter.unusedVariables false
set_option linter.unusedSimpArgs false
namespace Go.Proofs.YtmhpgdpegneejaaDoor
open Go Go.Proofs Go.Proofs.Slx
theorem jr_record {B : Hp} {a : Option Addr} {c : Nat} {p : List UInt8} {w : World} {R : List Hp} (hB : ∀ g, B g → RowH g a (bcells p)) (hp : p.length ≤ 10000000) (h : Sat w (B :: R)) :
    FnC Tryd.prog 86 [.slice a p.length c] w fun v w' => ∃ a' n' c', v = .slice a' n' c' ∧ Sat w' (OwnS 5 1 (.slice a' n' c') (bcells (recB p)) :: B :: R) := by
  have hz := bstr_size p
  have hu := putU_len10 (x := p.length) (by omega)
  have hpt : (putT (bstr p)).length ≤ 20000000 := by
    simp only [putT, List.length_append, bstr_size, bstr_list]
    omega
  refine fnC_of_run Tryd.func86 rfl Tryd.ntmps86 (Nat.le_of_ble_eq_true rfl) (fun cs => ?_)
  refine run_seq (run_region_lit ?_)
  refine o_rd (rd_assign rfl) trivial rfl ?_
  refine runO_nil (run_seq (run_region_lit ?_))
  refine o_rd (rd_move rfl) trivial rfl ?_
  refine o_ef trivial (ef_convBS Tryd.underlying32 Tryd.underlying5 Tryd.underlying9 rfl rfl (h.rowOf 0 rfl hB) rfl ?_)
  replace h := Sat.lone (A := rowR none (bcells [])) (fun _ => .inl rfl) h
  refine o_ef trivial (ef_call (Tryd.call50) rfl rfl ?_)
  refine FnC.mono (oc_PutText (bs := []) (a := none) (cap := 0) (fun g x => x) (by simp) (by omega) h) ?_
  rintro _ w ⟨a2, n2, c2, rfl, h⟩
  obtain ⟨hn2, hc2, hm2⟩ := own_len 0 h rfl
  subst hn2
  rw [List.nil_append] at h ⊢
  refine o_rd (rd_move rfl) trivial rfl ?_
  refine o_ef trivial (ef_call (Tryd.call78) rfl rfl ?_)
  refine FnC.mono (oc_Hash (h.rowOf 2 rfl hB) (by omega)) ?_
  rintro _ _ ⟨rfl, rfl⟩
  refine o_ef trivial (ef_call (Tryd.call49) rfl rfl ?_)
  refine FnC.mono (oc_PutWord (bs := putT (bstr p)) (x := hsh p) (fun g x => own_rowR g x) (by omega) (hsh_range p) h) ?_
  rintro _ w ⟨a3, n3, c3, rfl, h⟩
  refine o_rd (rd_assign rfl) trivial rfl ?_
  refine runO_nil ?_
  refine run_ret Tryd.func86 (RV.tmp rfl RV.nil) ?_
  -- ret 0 path  L ['o2', 'o', 'nil', 'B']
  exact ⟨a3, n3, c3, rfl, (Sat.out 1 (Sat.out 2 h))⟩

theorem jr_add {b d : Nat} {file : ByteArray} {J : JrnV} {B : Hp} {a : Option Addr} {c n : Nat} {p : List UInt8} {w : World} {R : List Hp} (hB : ∀ g, B g → RowH g a (bcells p)) (hp : J.recs.flatten.length + p.length ≤ 1000000000) (hr : J.recs.length ≤ 1000000000) (hs : J.size + n ≤ 1000000000) (h : Sat w (jrnR b d file J :: B :: R)) :
    FnC Tryd.prog 79 [.pointer (some ⟨b, 0, none⟩), .slice a p.length c, .int .i64 (n : Nat)] w fun v w' => Sat w' (jrnR b d file { J with recs := J.recs ++ [p], size := J.size + n } :: B :: R) := by
  obtain ⟨aa, ca, ap, cp, hca, hma, hcp, hmp, h⟩ := jrnR_open h
  refine fnC_of_run Tryd.func79 rfl Tryd.ntmps79 (Nat.le_of_ble_eq_true rfl) (fun cs => ?_)
  refine run_seq (run_region_lit ?_)
  refine o_rd (rd_move rfl) trivial rfl ?_
  refine o_rd (rd_nil rfl) trivial rfl ?_
  refine o_rd (rd_fieldA F117_2 S32 rfl) trivial rfl ?_
  refine o_ld rfl (h.at_ 0 rfl) T32 rfl rfl trivial rfl ?_
  refine o_rd (rd_len (u := 0) T32 rfl) trivial rfl ?_
  refine o_rd (rd_assign rfl) trivial rfl ?_
  refine runO_nil (run_seq (run_region_lit ?_))
  refine o_rd (rd_move rfl) trivial rfl ?_
  refine o_rd (rd_move rfl) trivial rfl ?_
  refine o_rd (rd_nil rfl) trivial rfl ?_
  refine o_rd (rd_fieldA F117_2 S32 rfl) trivial rfl ?_
  refine o_ld rfl (h.at_ 0 rfl) T32 rfl rfl trivial rfl ?_
  refine o_rd (rd_move rfl) trivial rfl ?_
  refine o_ef trivial (ef_append Tryd.underlying32 N32 S5 rfl 1 rfl rfl h rfl (Src.slice (h.rowOf 3 rfl hB) (bcells_len _) (ones_bcells _)) (bcells_len _) rfl (by omega) (by omega) rfl (fun a1 w h => ?_))
  rw [← bcells_append] at h
  obtain ⟨a6, n6, c6, rfl, hl6, hc6, hm6, _⟩ := Sat.ownRow 1 h rfl
  rw [bcells_len] at hl6
  obtain rfl : n6 = (J.recs.flatten ++ p).length := by omega
  refine o_rd (rd_nil rfl) trivial rfl ?_
  refine o_rd (rd_fieldA F117_2 S32 rfl) trivial rfl ?_
  refine o_ef trivial (ef_store S32 0 rfl rfl h rfl rfl rfl (Nat.le_of_ble_eq_true rfl) rfl (fun w h => ?_))
  replace h := Sat.conv (B := pt b (.cells #[.pointer (some ⟨d, 0, none⟩), .string file, .slice a6 (J.recs.flatten ++ p).length c6, .slice ap J.recs.length cp, .int .i64 J.size, .bool J.cut] 117)) 0 h rfl (fun _ x => x)
  refine runO_nil (run_seq ?_)
  refine run_drawS 16 2 [(0, true), (1, true), (2, true), (3, true), (4, true), (5, true), (6, true), (7, true), (8, true), (9, true), (10, true), (11, true), (12, false), (13, false), (14, true), (15, true), (16, false)] [(_, true), (_, true), (_, true), (_, true), (_, true), (_, true), (_, true), (_, true), (_, true), (_, true), (_, true), (_, true), (_, false), (_, false), (_, true), (_, true), (_, false)] h (Holds.cons (h.at_ 0 rfl) (Holds.nil _)) mixed (by kernel_rfl) rfl ?_
  intro w h hK
  refine d_rd (rd_move rfl) hK trivial rfl ?_
  refine d_rd (rd_move rfl) hK trivial rfl ?_
  refine d_rd (rd_nil rfl) hK trivial rfl ?_
  refine d_rd (rd_fieldA F117_3 S115 rfl) hK trivial rfl ?_
  refine d_ld rfl 0 rfl T115 rfl rfl hK trivial rfl ?_
  refine d_rd (rd_move rfl) hK trivial rfl ?_
  refine d_rd (rd_move rfl) hK trivial rfl ?_
  refine d_rd (rd_nil rfl) hK trivial rfl ?_
  refine d_rd (rd_fieldA F117_2 S32 rfl) hK trivial rfl ?_
  refine d_ld rfl 0 rfl T32 rfl rfl hK trivial rfl ?_
  refine d_rd (rd_len (u := 0) T32 rfl) hK trivial rfl ?_
  refine d_rd (Reads.to (v' := .agg #[.int .i64 (J.recs.flatten.length : Int), .int .i64 ((J.recs.flatten ++ p).length : Int)]) (rd_build B139 rfl rfl) rfl) hK trivial rfl ?_
  refine d_ef trivial (ef_buildSlice Tryd.underlying115 S139 rfl rfl rfl h rfl (fun t w h => ?_))
  replace h := Sat.conv (B := pt t (.cells #[.int .i64 (J.recs.flatten.length : Int), .int .i64 ((J.recs.flatten ++ p).length : Int)] 139)) 0 h rfl (fun _ x => x)
  refine ⟨fun _ => (Holds.cons (h.at_ 1 rfl) (Holds.nil _)), ?_⟩
  replace hK := (Holds.cons (h.at_ 1 rfl) (Holds.nil _))
  refine d_ef trivial (ef_append Tryd.underlying115 N115 S139 rfl 3 rfl rfl h rfl (Src.slice (h.rowPt 0 rfl) rfl rfl) (pcs_len J.recs 0) rfl (by omega) (by omega) rfl (fun a2 w h => ?_))
  rw [pcs_snoc2] at h
  obtain ⟨a7, n7, c7, rfl, hl7, hc7, hm7, _⟩ := Sat.ownRow 3 h rfl
  refine ⟨fun _ => (Holds.cons (h.at_ 1 rfl) (Holds.nil _)), ?_⟩
  replace hK := (Holds.cons (h.at_ 1 rfl) (Holds.nil _))
  refine d_rd (rd_nil rfl) hK trivial rfl ?_
  refine d_rd (rd_fieldA F117_3 S115 rfl) hK trivial rfl ?_
  refine d_ef trivial (ef_store S115 1 rfl rfl h rfl rfl rfl (Nat.le_of_ble_eq_true rfl) rfl (fun w h => ?_))
  replace h := Sat.conv (B := pt b (.cells #[.pointer (some ⟨d, 0, none⟩), .string file, .slice a6 (J.recs.flatten ++ p).length c6, .slice a7 n7 c7, .int .i64 J.size, .bool J.cut] 117)) 1 h rfl (fun _ x => x)
  refine ⟨fun e => absurd rfl e, ?_⟩
  refine d_nil ?_
  refine run_region_lit ?_
  refine o_rd (rd_move rfl) trivial rfl ?_
  refine o_rd (rd_nil rfl) trivial rfl ?_
  refine o_rd (rd_fieldA F117_4 S3 rfl) trivial rfl ?_
  refine o_ld rfl (h.at_ 1 rfl) T3 rfl rfl trivial rfl ?_
  refine o_rd (rd_move rfl) trivial rfl ?_
  refine o_rd (Reads.to (v' := .int .i64 ((J.size + n : Nat) : Int)) (rd_addi rfl rfl (by constructor <;> omega)) (by rw [Int.natCast_add])) trivial rfl ?_
  refine o_rd (rd_nil rfl) trivial rfl ?_
  refine o_rd (rd_fieldA F117_4 S3 rfl) trivial rfl ?_
  refine o_ef trivial (ef_store S3 1 rfl rfl h rfl rfl rfl (Nat.le_of_ble_eq_true rfl) rfl (fun w h => ?_))
  replace h := Sat.conv (B := pt b (.cells #[.pointer (some ⟨d, 0, none⟩), .string file, .slice a6 (J.recs.flatten ++ p).length c6, .slice a7 n7 c7, .int .i64 ((J.size + n : Nat) : Int), .bool J.cut] 117)) 1 h rfl (fun _ x => x)
  refine runO_nil ?_
  refine run_end Tryd.func79 RV.nil ?_
  -- ret 0 path  L ['t', 'b', 'all', 'parts', 'B']
  rw [← flat_snoc] at h
  exact jrnR_close (J := { J with recs := J.recs ++ [p], size := J.size + n }) (Sat.out 0 h)

theorem jr_Append {b d : Nat} {file : ByteArray} {J : JrnV} {D : DiskV} {B : Hp} {a : Option Addr} {c : Nat} {p : List UInt8} {w : World} {R : List Hp} (hB : ∀ g, B g → RowH g a (bcells p)) (hpl : p.length ≤ 10000000) (hp : J.recs.flatten.length + p.length ≤ 100000000) (hr : J.recs.length ≤ 100000000) (hs : J.size ≤ 100000000) (h : Sat w (jrnR b d file J :: diskR d D :: B :: R)) :
    FnC Tryd.prog 51 [.pointer (some ⟨b, 0, none⟩), .slice a p.length c] w fun v w' => v = .int .i64 (J.append D file p).2.2 ∧ Sat w' (jrnR b d file (J.append D file p).1 :: diskR d (J.append D file p).2.1 :: B :: R) := by
  obtain ⟨aa, ca, ap, cp, hca, hma, hcp, hmp, h⟩ := jrnR_open h
  have hrl := recB_len (p := p) (by omega)
  refine fnC_of_run Tryd.func51 rfl Tryd.ntmps51 (Nat.le_of_ble_eq_true rfl) (fun cs => ?_)
  refine run_seq (run_region_lit ?_)
  refine o_rd (rd_assign rfl) trivial rfl ?_
  refine runO_nil (run_seq (run_block (run_seq (run_region_lit ?_))))
  refine o_rd (rd_move rfl) trivial rfl ?_
  refine o_rd (rd_eqlP0 T87 rfl rfl) trivial rfl ?_
  refine o_rd (rd_assign rfl) trivial rfl ?_
  refine runO_nil (run_cond_false rfl (run_seq (run_region_lit ?_)))
  refine o_rd (rd_move rfl) trivial rfl ?_
  refine o_rd (rd_nil rfl) trivial rfl ?_
  refine o_rd (rd_fieldA F117_5 S4 rfl) trivial rfl ?_
  refine o_ld rfl (h.at_ 0 rfl) T4 rfl rfl trivial rfl ?_
  refine o_know (b := _) 14 rfl (fun c1 => ?_) (fun c1 => ?_)
  · refine o_rd (rd_assign rfl) trivial rfl ?_
    refine runO_nil (run_cond_true rfl (run_seq (run_region_lit ?_)))
    refine o_rd (rd_assign rfl) trivial rfl ?_
    refine runO_nil ?_
    refine run_ret Tryd.func51 (RV.tmp rfl RV.nil) ?_
    -- ret 0 path c1t. L ['b', 'all', 'parts', 'D', 'B']
    rw [show J.append D file p = (J, D, 6) by simp only [JrnV.append, if_pos c1]]
    exact ⟨rfl, jrnR_close h⟩
  · refine o_rd (rd_assign rfl) trivial rfl ?_
    refine runO_nil (run_cond_false rfl (run_seq (run_region_lit ?_)))
    refine o_rd (rd_move rfl) trivial rfl ?_
    refine o_rd (rd_len (u := 0) T32 rfl) trivial rfl ?_
    refine o_tD (rd_gtr rfl rfl) trivial rfl (fun c2 => ?_) (fun c2 => ?_)
    · refine o_rd (rd_assign rfl) trivial rfl ?_
      refine runO_nil (run_cond_true rfl (run_seq (run_region_lit ?_)))
      refine o_rd (rd_assign rfl) trivial rfl ?_
      refine runO_nil ?_
      refine run_ret Tryd.func51 (RV.tmp rfl RV.nil) ?_
      -- ret 1 path c1f.c2t. L ['b', 'all', 'parts', 'D', 'B']
      rw [show J.append D file p = (J, D, 3) by simp only [JrnV.append, c1, Bool.false_eq_true, if_false, if_pos (show 262144 < p.length by omega)]]
      exact ⟨rfl, jrnR_close h⟩
    · refine o_rd (rd_assign rfl) trivial rfl ?_
      refine runO_nil (run_cond_false rfl (run_skip (run_inBlock (run_seq (run_region_lit ?_)))))
      refine o_rd (rd_move rfl) trivial rfl ?_
      refine o_ef trivial (ef_call (Tryd.call86) rfl rfl ?_)
      refine FnC.mono (jr_record hB hpl (Sat.bring 4 h)) ?_
      rintro _ w ⟨a2, n2, c2, rfl, h⟩
      obtain ⟨hn2, hc2, hm2⟩ := own_len 0 h rfl
      subst hn2
      refine o_rd (rd_assign rfl) trivial rfl ?_
      refine runO_nil (run_seq (run_seq ?_))
      refine run_drawS 10 1 [(0, true), (1, true), (2, true), (3, true), (4, true), (5, true), (6, true), (7, true), (8, true), (9, false), (10, false)] [(_, true), (_, true), (_, true), (_, true), (_, true), (_, true), (_, true), (_, true), (_, true), (_, false), (_, false)] h (Holds.cons (h.at_ 2 rfl) (Holds.nil _)) mixed (by kernel_rfl) rfl ?_
      intro w h hK
      refine d_rd (rd_move rfl) hK trivial rfl ?_
      refine d_rd (rd_nil rfl) hK trivial rfl ?_
      refine d_rd (rd_fieldA F117_0 S24 rfl) hK trivial rfl ?_
      refine d_ld rfl 0 rfl T24 rfl rfl hK trivial rfl ?_
      refine d_rd (rd_move rfl) hK trivial rfl ?_
      refine d_rd (rd_nil rfl) hK trivial rfl ?_
      refine d_rd (rd_fieldA F117_1 S9 rfl) hK trivial rfl ?_
      refine d_ld rfl 0 rfl T9 rfl rfl hK trivial rfl ?_
      refine d_rd (rd_move rfl) hK trivial rfl ?_
      refine d_ef trivial (ef_call (Tryd.call28) rfl rfl ?_)
      refine FnC.mono (disk_Append (D := D) (bs := recB p) (fun g x => own_rowR g x) hc2 hm2 (Sat.bring 5 h)) ?_
      rintro _ w ⟨rfl, h⟩
      refine ⟨fun _ => (Holds.cons (h.at_ 3 rfl) (Holds.nil _)), ?_⟩
      replace hK := (Holds.cons (h.at_ 3 rfl) (Holds.nil _))
      refine d_rd0 (rd_assign rfl) hK trivial rfl ?_
      refine d_nil ?_
      refine run_seq (run_region_lit ?_)
      refine o_rd (rd_move rfl) trivial rfl ?_
      refine o_tN (rd_neq rfl rfl) trivial rfl (fun c3 => ?_) (fun c3 => ?_)
      · refine runO_nil (run_cond_true rfl (run_seq (run_region_lit ?_)))
        refine o_rd (rd_move rfl) trivial rfl ?_
        refine o_rd (rd_move rfl) trivial rfl ?_
        refine o_rd (rd_eql rfl rfl) trivial rfl ?_
        refine o_rd (rd_nil rfl) trivial rfl ?_
        refine o_rd (rd_fieldA F117_5 S4 rfl) trivial rfl ?_
        refine o_ef trivial (ef_store S4 3 rfl rfl h rfl rfl rfl (Nat.le_of_ble_eq_true rfl) rfl (fun w h => ?_))
        replace h := Sat.conv (B := pt b (.cells #[.pointer (some ⟨d, 0, none⟩), .string file, .slice aa J.recs.flatten.length ca, .slice ap J.recs.length cp, .int .i64 J.size, .bool (decide ((D.append file (recB p)).2 = 6))] 117)) 3 h rfl (fun _ x => x)
        refine runO_nil (run_seq (run_region_lit ?_))
        refine o_rd (rd_move rfl) trivial rfl ?_
        refine o_rd (rd_assign rfl) trivial rfl ?_
        refine runO_nil ?_
        refine run_ret Tryd.func51 (RV.tmp rfl RV.nil) ?_
        -- ret 2 path c1f.c2f.c3t. L ['D', 'rec', 'B', 'b', 'all', 'parts']
        rw [show J.append D file p = ({ J with cut := decide ((D.append file (recB p)).2 = 6) }, (D.append file (recB p)).1, (D.append file (recB p)).2) by simp only [JrnV.append, c1, Bool.false_eq_true, if_false, if_neg (show ¬262144 < p.length by omega), if_neg c3]]
        exact ⟨rfl, jrnR_close (J := { J with cut := decide ((D.append file (recB p)).2 = 6) }) (Sat.bring 4 (Sat.bring 4 (Sat.bring 4 (Sat.bring 1 (Sat.bring 1 (Sat.out 1 h))))))⟩
      · refine runO_nil (run_cond_false rfl (run_skip (run_seq (run_region_lit ?_))))
        refine o_rd (rd_move rfl) trivial rfl ?_
        refine o_rd (rd_move rfl) trivial rfl ?_
        refine o_rd (rd_move rfl) trivial rfl ?_
        refine o_rd (rd_len (u := 0) T32 rfl) trivial rfl ?_
        replace h := jrnR_close (Sat.bring 5 (Sat.bring 5 (Sat.bring 5 (Sat.bring 2 (Sat.bring 2 (Sat.bring 2 h))))))
        refine o_ef trivial (ef_call (Tryd.call79) rfl rfl ?_)
        refine FnC.mono (jr_add (n := (recB p).length) hB (by omega) (by omega) (by omega) (Sat.bring 1 (Sat.bring 3 h))) ?_
        rintro _ w h
        refine runO_nil (run_seq (run_region_lit ?_))
        refine o_rd (rd_assign rfl) trivial rfl ?_
        refine runO_nil ?_
        refine run_ret Tryd.func51 (RV.tmp rfl RV.nil) ?_
        -- ret 3 path c1f.c2f.c3f. L ['J', 'B', 'D', 'rec']
        rw [show J.append D file p = ({ J with recs := J.recs ++ [p], size := J.size + (recB p).length }, (D.append file (recB p)).1, 0) by simp only [JrnV.append, c1, Bool.false_eq_true, if_false, if_neg (show ¬262144 < p.length by omega), if_pos c3]]
        exact ⟨rfl, (Sat.bring 2 (Sat.bring 2 (Sat.bring 1 (Sat.out 3 h))))⟩

theorem jr_payload {b d k : Nat} {file : ByteArray} {J : JrnV} {r : List UInt8} {w : World} {R : List Hp} (hk : J.recs[k]? = some r) (hp : J.recs.flatten.length ≤ 100000000) (h : Sat w (jrnR b d file J :: R)) :
    FnC Tryd.prog 82 [.pointer (some ⟨b, 0, none⟩), .int .i64 (k : Nat)] w fun v w' => ∃ a' n' c', v = .slice a' n' c' ∧ Sat w' (OwnS 5 1 (.slice a' n' c') (bcells r) :: jrnR b d file J :: R) := by
  obtain ⟨aa, ca, ap, cp, hca, hma, hcp, hmp, h⟩ := jrnR_open h
  have hkl : k < J.recs.length := (List.getElem?_eq_some_iff.1 hk).1
  obtain ⟨hfa, hfb⟩ := flat_at _ _ _ hk
  obtain ⟨hp1, hp2⟩ := pcs_at _ 0 _ _ hk
  rw [Nat.zero_add] at hp1 hp2
  obtain ⟨F, hF⟩ : ∃ F, F = (J.recs.take k).flatten.length := ⟨_, rfl⟩
  rw [← hF] at hfa hfb hp1 hp2
  refine fnC_of_run Tryd.func82 rfl Tryd.ntmps82 (Nat.le_of_ble_eq_true rfl) (fun cs => ?_)
  refine run_seq (run_region_lit ?_)
  refine o_rd (rd_assign rfl) trivial rfl ?_
  refine runO_nil (run_seq ?_)
  obtain ⟨ap2, np2, cp2, ep2, _, _, _, hrow⟩ := Sat.ownRow 2 h rfl
  cases ep2
  obtain ⟨bb, oo, C, E, fr, rfl, hb, hcell⟩ := RowW.get hrow hp1
  refine run_region_lit ?_
  refine o_rd (rd_move rfl) trivial rfl ?_
  refine o_rd (rd_nil rfl) trivial rfl ?_
  refine o_rd (rd_fieldA F117_3 S115 rfl) trivial rfl ?_
  refine o_ld rfl (h.at_ 0 rfl) T115 rfl rfl trivial rfl ?_
  refine o_rd (rd_move rfl) trivial rfl ?_
  refine o_rd (Reads.to (v' := .pointer (some ⟨bb, oo + k * 2, none⟩)) (rd_idx T115 S139 rfl rfl (by omega) (by omega)) (by simp)) trivial rfl ?_
  refine o_ldG rfl hb G139 (cutL_two (hcell _ _ hp1) (hcell _ _ hp2)) trivial rfl ?_
  refine o_ef trivial (ef_alloc S139 rfl h (fun q w h => ?_))
  refine o_ef trivial (ef_store S139 0 rfl rfl h rfl rfl rfl (Nat.le_of_ble_eq_true rfl) rfl (fun w h => ?_))
  replace h := Sat.conv (B := pt q (.cells #[.int .i64 (F : Int), .int .i64 ((F + r.length : Nat) : Int)] 139)) 0 h rfl (fun _ x => x)
  refine runO_nil (run_seq ?_)
  refine run_drawS 10 1 [(0, true), (1, true), (2, true), (3, true), (4, true), (5, true), (6, true), (7, true), (8, true), (9, false), (10, false)] [(_, true), (_, true), (_, true), (_, true), (_, true), (_, true), (_, true), (_, true), (_, true), (_, false), (_, false)] h (Holds.cons (h.at_ 1 rfl) (Holds.cons (h.at_ 0 rfl) (Holds.nil _))) mixed (by kernel_rfl) rfl ?_
  intro w h hK
  refine d_rd (rd_move rfl) hK trivial rfl ?_
  refine d_rd (rd_nil rfl) hK trivial rfl ?_
  refine d_rd (rd_fieldA F117_2 S32 rfl) hK trivial rfl ?_
  refine d_ld rfl 0 rfl T32 rfl rfl hK trivial rfl ?_
  refine d_rd (rd_fieldA F139_0 S3 rfl) hK trivial rfl ?_
  refine d_ld rfl 1 rfl T3 rfl rfl hK trivial rfl ?_
  refine d_rd (rd_fieldA F139_1 S3 rfl) hK trivial rfl ?_
  refine d_ld rfl 1 rfl T3 rfl rfl hK trivial rfl ?_
  refine d_rd (Reads.to (v' := .slice (adv aa F 1 ca) r.length (ca - F)) (rd_slice T32 S5 rfl rfl rfl (by omega) (by omega) (by omega)) (by simp; omega)) hK trivial rfl ?_
  refine d_ef trivial (ef_call (Tryd.call30) rfl rfl ?_)
  refine FnC.mono (clone_bytes (bs := r) (fun g x => by have y := RowH.take (rowR_drop F hca g (own_rowR g x)) r.length; rw [← bcells_take, hfb] at y; exact y) (by omega) (Sat.bring 2 h)) ?_
  rintro _ w ⟨a2, n2, c2, rfl, h⟩
  refine ⟨fun _ => (Holds.cons (h.at_ 3 rfl) (Holds.cons (h.at_ 2 rfl) (Holds.nil _))), ?_⟩
  replace hK := (Holds.cons (h.at_ 3 rfl) (Holds.cons (h.at_ 2 rfl) (Holds.nil _)))
  refine d_rd0 (rd_assign rfl) hK trivial rfl ?_
  refine d_nil ?_
  refine run_ret Tryd.func82 (RV.tmp rfl RV.nil) ?_
  -- ret 0 path  L ['o', 'all', 'q', 'b', 'parts']
  exact ⟨a2, n2, c2, rfl, (Sat.swap (jrnR_close (Sat.bring 3 (Sat.bring 2 (Sat.bring 3 (Sat.out 2 h))))))⟩

theorem jr_Len {b d : Nat} {file : ByteArray} {J : JrnV} {w : World} {R : List Hp} (h : Sat w (jrnR b d file J :: R)) :
    FnC Tryd.prog 81 [.pointer (some ⟨b, 0, none⟩)] w fun v w' => v = .int .i64 J.recs.length ∧ Sat w' (jrnR b d file J :: R) := by
  obtain ⟨aa, ca, ap, cp, hca, hma, hcp, hmp, h⟩ := jrnR_open h
  refine fnC_of_run Tryd.func81 rfl Tryd.ntmps81 (Nat.le_of_ble_eq_true rfl) (fun cs => ?_)
  refine run_seq (run_region_lit ?_)
  refine o_rd (rd_assign rfl) trivial rfl ?_
  refine runO_nil (run_seq (run_seq (run_region_lit ?_)))
  refine o_rd (rd_move rfl) trivial rfl ?_
  refine o_rd (rd_eqlP0 T87 rfl rfl) trivial rfl ?_
  refine runO_nil (run_cond_false rfl (run_skip (run_seq (run_region_lit ?_))))
  refine o_rd (rd_move rfl) trivial rfl ?_
  refine o_rd (rd_nil rfl) trivial rfl ?_
  refine o_rd (rd_fieldA F117_3 S115 rfl) trivial rfl ?_
  refine o_ld rfl (h.at_ 0 rfl) T115 rfl rfl trivial rfl ?_
  refine o_rd (rd_len (u := 0) T115 rfl) trivial rfl ?_
  refine o_rd (rd_assign rfl) trivial rfl ?_
  refine runO_nil ?_
  refine run_ret Tryd.func81 (RV.tmp rfl RV.nil) ?_
  -- ret 0 path  L ['b', 'all', 'parts']
  exact ⟨rfl, jrnR_close h⟩

theorem jr_Each {v0 : Value} {w : World} {R : List Hp} (hv : v0.cells = #[v0]) (h : Sat w R) :
    FnC Tryd.prog 46 [v0] w fun v w' => ∃ bx, v = .func (.func 80) #[] #[.pointer (some ⟨bx, 0, none⟩)] ∧ Sat w' (pt bx (.cells #[v0] 87) :: R) := by
  refine fnC_of_run Tryd.func46 rfl Tryd.ntmps46 (Nat.le_of_ble_eq_true rfl) (fun cs => ?_)
  refine run_seq (run_region_lit ?_)
  refine o_ef trivial (ef_box rfl rfl h (fun bx w h => ?_))
  refine o_rd (rd_assign rfl) trivial rfl ?_
  refine runO_nil ?_
  rw [hv] at h
  refine run_seq (run_region_lit ?_)
  refine o_rd (rd_funcL rfl) trivial rfl ?_
  refine o_rd (rd_assign rfl) trivial rfl ?_
  refine runO_nil ?_
  refine run_ret Tryd.func46 (RV.tmp rfl RV.nil) ?_
  -- ret 0 path  L ['bx']
  exact ⟨bx, rfl, h⟩

theorem jr_iter {bx b d : Nat} {file : ByteArray} {J : JrnV} {fv : Value} {Rg : Nat → List Hp} {Rz : List Hp} {w : World} (hp : J.recs.flatten.length ≤ 100000000) (hr : J.recs.length ≤ 100000000)
    (hy : ∀ (i : Nat) (r : List UInt8) (a : Option Addr) (c : Nat) (X : Hp) (w : World), J.recs[i]? = some r → r.length ≤ c → c ≤ 9223372036854775807 → Sat w (OwnS 5 1 (.slice a r.length c) (bcells r) :: X :: Rg i) → CallV Tryd.prog fv [.int .i64 (i : Nat), .slice a r.length c] w fun v w' => (v = .bool true ∧ Sat w' (X :: Rg (i + 1))) ∨ (v = .bool false ∧ Sat w' (X :: Rz))) (h : Sat w (pt bx (.cells #[.pointer (some ⟨b, 0, none⟩)] 87) :: jrnR b d file J :: Rg 0)) :
    FnC Tryd.prog 80 [fv, .pointer (some ⟨bx, 0, none⟩)] w fun v w' => Sat w' (pt bx (.cells #[.pointer (some ⟨b, 0, none⟩)] 87) :: jrnR b d file J :: Rg J.recs.length) ∨ Sat w' (pt bx (.cells #[.pointer (some ⟨b, 0, none⟩)] 87) :: jrnR b d file J :: Rz) := by
  refine fnC_of_run Tryd.func80 rfl Tryd.ntmps80 (Nat.le_of_ble_eq_true rfl) (fun cs => ?_)
  refine run_seq (run_region_lit ?_)
  refine o_ld rfl (h.at_ 0 rfl) T87 rfl rfl trivial rfl ?_
  refine o_ef trivial (ef_call (Tryd.call81) rfl rfl ?_)
  refine FnC.mono (jr_Len (Sat.bring 1 h)) ?_
  rintro _ w ⟨rfl, h⟩
  refine o_rd (rd_move rfl) trivial rfl ?_
  refine runO_nil (run_block ?_)
  refine run_loop (σ := Nat) (fun i => [(0, fv), (1, .pointer (some ⟨bx, 0, none⟩)), (5, .int .i64 J.recs.length), (6, .int .i64 (i : Nat))]) (fun i w => Sat w (pt bx (.cells #[.pointer (some ⟨b, 0, none⟩)] 87) :: jrnR b d file J :: Rg i) ∧ i ≤ J.recs.length) (fun i => J.recs.length - i) 0 ?_ (sub_cons rfl (sub_cons rfl (sub_cons rfl (sub_cons rfl (sub_nil _))))) ?_
  · exact ⟨(Sat.bring 1 h), Nat.zero_le _⟩
  clear h
  rintro i w ⟨h, hi⟩ ih
  refine run_seq (run_region_lit ?_)
  refine o_tD (rd_lss rfl rfl) trivial rfl (fun c1 => ?_) (fun c1 => ?_)
  · refine runO_nil (run_seq (run_cond_true rfl (run_skip (run_seq (run_block (run_seq (run_region_lit ?_)))))))
    refine o_rd (rd_move rfl) trivial rfl ?_
    refine o_rd (rd_assign rfl) trivial rfl ?_
    refine runO_nil (run_seq ?_)
    obtain ⟨r, hi2⟩ : ∃ r, J.recs[i]? = some r := ⟨_, List.getElem?_eq_getElem (by omega)⟩
    refine run_region_lit ?_
    refine o_rd (rd_move rfl) trivial rfl ?_
    refine o_rd (rd_move rfl) trivial rfl ?_
    refine o_ld rfl (h.at_ 0 rfl) T87 rfl rfl trivial rfl ?_
    refine o_rd (rd_move rfl) trivial rfl ?_
    refine o_ef trivial (ef_call (Tryd.call82) rfl rfl ?_)
    refine FnC.mono (jr_payload hi2 hp (Sat.bring 1 h)) ?_
    rintro _ w ⟨a2, n2, c2, rfl, h⟩
    obtain ⟨hn2, hc2, hm2⟩ := own_len 0 h rfl
    subst hn2
    refine o_ef trivial (ef_callFV rfl rfl rfl ?_)
    refine CallV.mono (hy i r a2 c2 _ _ hi2 hc2 hm2 (sat_part1 (L := [_, _]) (Sat.bring 2 (Sat.bring 2 (Sat.bring 1 h))))) ?_
    rintro _ w (⟨rfl, h⟩ | ⟨rfl, h⟩)
    · replace h := h.join
      refine o_rd (rd_not rfl) trivial rfl ?_
      refine runO_nil (run_cond_false rfl (run_skip (run_inBlock (run_region_lit ?_))))
      refine o_rd (rd_addi rfl rfl (by constructor <;> omega)) trivial rfl ?_
      refine o_rd (rd_move rfl) trivial rfl ?_
      refine runO_nil ?_
      -- round of loop 0 path L0.c1t.A0. L ['bx', 'J']
      exact run_fewer (sub_cons rfl (sub_cons rfl (sub_cons rfl (sub_cons rfl (sub_nil _))))) (ih (i + 1) w ⟨h, by omega⟩ (by omega))
    · replace h := h.join
      refine o_rd (rd_not rfl) trivial rfl ?_
      refine runO_nil (run_cond_true rfl ?_)
      refine run_ret Tryd.func80 RV.nil ?_
      -- ret 0 path L0.c1t.A1. L ['bx', 'J']
      exact .inr h
  · refine runO_nil (run_seq (run_cond_false rfl (run_exit rfl ?_)))
    refine run_end Tryd.func80 RV.nil ?_
    -- ret 1 path L0.c1f. L ['bx', 'J']
    obtain rfl : i = J.recs.length := by omega
    exact .inl h

theorem jr_Open {d : Nat} {D : DiskV} {file : ByteArray} {w : World} {R : List Hp} (hok : ∀ f, kget D.files file = some f → f.length ≤ 4194304) (h : Sat w (diskR d D :: R)) :
    FnC Tryd.prog 45 [.pointer (some ⟨d, 0, none⟩), .string file] w fun v w' => (((jparse ((kget D.files file).getD [])).2.2 = true ∧ v = .tuple #[.pointer none, .int .i64 8] ∧ Sat w' (diskR d D :: R)) ∨
       ((jparse ((kget D.files file).getD [])).2.2 = false ∧ (jtrunc D file).2 ≠ 0 ∧ v = .tuple #[.pointer none, .int .i64 (jtrunc D file).2] ∧ Sat w' (diskR d (jtrunc D file).1 :: R)) ∨
       ((jparse ((kget D.files file).getD [])).2.2 = false ∧ (jtrunc D file).2 = 0 ∧ ∃ b, v = .tuple #[.pointer (some ⟨b, 0, none⟩), .int .i64 0] ∧ Sat w' (jrnR b d file ⟨(jparse ((kget D.files file).getD [])).1, (jparse ((kget D.files file).getD [])).2.1, false⟩ :: diskR d (jtrunc D file).1 :: R))) := by
  have hfs : ((kget D.files file).getD []).length ≤ 4194304 := by
    cases e : kget D.files file with
    | none => simp
    | some f => exact hok f e
  obtain ⟨bs, hbs⟩ : ∃ bs, bs = (kget D.files file).getD [] := ⟨_, rfl⟩
  obtain ⟨T, hT⟩ : ∃ T, T = jtrunc D file := ⟨_, rfl⟩
  have hT2 := hT
  unfold jtrunc at hT2
  rw [← hbs] at hfs hT2 ⊢
  rw [← hT]
  refine fnC_of_run Tryd.func45 rfl Tryd.ntmps45 (Nat.le_of_ble_eq_true rfl) (fun cs => ?_)
  refine run_seq (run_region_lit ?_)
  refine o_rd (rd_assign rfl) trivial rfl ?_
  refine o_rd (rd_assign rfl) trivial rfl ?_
  refine runO_nil (run_scope (run_seq (run_seq (run_region_lit ?_))))
  refine o_rd (rd_move rfl) trivial rfl ?_
  refine o_rd (rd_eqlP0 T24 rfl rfl) trivial rfl ?_
  refine runO_nil (run_cond_false rfl (run_skip (run_seq (run_region_lit ?_))))
  refine o_rd (rd_move rfl) trivial rfl ?_
  refine o_rd (rd_move rfl) trivial rfl ?_
  refine o_ef trivial (ef_call (Tryd.call29) rfl rfl ?_)
  refine FnC.mono (disk_Read (D := D) (fun f e => Nat.le_trans (hok f e) (by omega)) h) ?_
  rintro _ w ⟨a2, n2, c2, rfl, h⟩
  rw [← hbs] at h
  obtain ⟨hn2, hc2, hm2⟩ := own_len 0 h rfl
  subst hn2
  refine o_rd (rd_move rfl) trivial rfl ?_
  refine o_rd (rd_extract rfl rfl) trivial rfl ?_
  refine o_rd (rd_extract rfl rfl) trivial rfl ?_
  refine o_rd (rd_assign rfl) trivial rfl ?_
  refine o_rd (rd_assign rfl) trivial rfl ?_
  refine runO_nil (run_seq (run_seq ?_))
  refine run_cutA 1 (σ := Unit) (fun _ => [(0, .pointer (some ⟨d, 0, none⟩)), (1, .string file), (6, .slice a2 bs.length c2)]) (fun _ w => Sat w (OwnS 5 1 (.slice a2 bs.length c2) (bcells bs) :: diskR d D :: R)) ?_ (fun cut1 => ?_)
  · clear h
    rintro _ w h
    refine run_seq (run_region_lit ?_)
    refine o_rd (rd_move rfl) trivial rfl ?_
    refine o_rd (rd_move rfl) trivial rfl ?_
    refine o_rd (Reads.to (v' := .agg #[.pointer (some ⟨d, 0, none⟩), .string file, .slice none 0 0, .slice none 0 0, .int .i64 0, .bool false]) (rd_build B117 rfl rfl) rfl) trivial rfl ?_
    refine o_ef trivial (ef_box rfl rfl h (fun jb w h => ?_))
    replace h := Sat.conv (B := pt jb (.cells #[.pointer (some ⟨d, 0, none⟩), .string file, .slice none 0 0, .slice none 0 0, .int .i64 ((0 : Nat) : Int), .bool false] 117)) 0 h rfl (fun _ x => x)
    refine o_rd (rd_assign rfl) trivial rfl ?_
    refine runO_nil (run_seq (run_region_lit ?_))
    refine o_rd (rd_move rfl) trivial rfl ?_
    replace h := jrnR_close (d := d) (file := file) (J := ⟨[], 0, false⟩) (va := .slice none 0 0) (vp := .slice none 0 0) (Sat.bring 2 (Sat.lone (A := OwnS 5 1 (.slice none 0 0) []) (own_none none) (Sat.lone (A := OwnS 139 2 (.slice none 0 0) []) (own_none none) h)))
    refine o_ef trivial (ef_call (Tryd.call73) rfl rfl ?_)
    refine FnC.mono (oc_Read (fun g x => own_rowR g x) (by omega) (Sat.bring 1 h)) ?_
    rintro _ w ⟨rd, rfl, h⟩
    refine o_rd (rd_assign rfl) trivial rfl ?_
    refine runO_nil (run_seq (run_label (run_seq ?_)))
    refine run_cutA 0 (σ := List (List UInt8) × Nat) (fun (RS, sz) => [(0, .pointer (some ⟨d, 0, none⟩)), (1, .string file), (6, .slice a2 bs.length c2), (8, .pointer (some ⟨jb, 0, none⟩))]) (fun (RS, sz) w => Sat w (jrnR jb d file ⟨RS, sz, false⟩ :: OwnS 5 1 (.slice a2 bs.length c2) (bcells bs) :: diskR d D :: R) ∧ jparse bs = (RS, sz, false)) ?_ (fun cut2 => ?_)
    · clear h
      rintro ⟨RS, sz⟩ w ⟨h, hjp⟩
      refine run_seq (run_seq ?_)
      obtain ⟨aa, ca, ap, cp, hca, hma, hcp, hmp, h⟩ := jrnR_open h
      refine run_region_lit ?_
      refine o_rd (rd_move rfl) trivial rfl ?_
      refine o_rd (rd_nil rfl) trivial rfl ?_
      refine o_rd (rd_fieldA F117_4 S3 rfl) trivial rfl ?_
      refine o_ld rfl (h.at_ 0 rfl) T3 rfl rfl trivial rfl ?_
      refine o_rd (rd_move rfl) trivial rfl ?_
      refine o_rd (rd_len (u := 0) T32 rfl) trivial rfl ?_
      refine o_tD (rd_lss rfl rfl) trivial rfl (fun c1 => ?_) (fun c1 => ?_)
      · refine runO_nil (run_cond_true rfl (run_seq (run_region_lit ?_)))
        refine o_rd (rd_move rfl) trivial rfl ?_
        refine o_rd (rd_move rfl) trivial rfl ?_
        refine o_rd (rd_move rfl) trivial rfl ?_
        refine o_rd (rd_nil rfl) trivial rfl ?_
        refine o_rd (rd_fieldA F117_4 S3 rfl) trivial rfl ?_
        refine o_ld rfl (h.at_ 0 rfl) T3 rfl rfl trivial rfl ?_
        refine o_ef trivial (ef_call (Tryd.call38) rfl rfl ?_)
        refine FnC.mono (disk_Truncate (D := D) (fun f e => Nat.le_trans (hok f e) (by omega)) (Sat.bring 4 h)) ?_
        rintro _ w ⟨rfl, h⟩
        refine o_rd (rd_assign rfl) trivial rfl ?_
        refine runO_nil (run_seq (run_region_lit ?_))
        refine o_rd (rd_move rfl) trivial rfl ?_
        refine o_tN (rd_neq rfl rfl) trivial rfl (fun c2 => ?_) (fun c2 => ?_)
        · refine runO_nil (run_cond_true rfl (run_seq (run_region_lit ?_)))
          refine o_rd (rd_move rfl) trivial rfl ?_
          refine o_rd (rd_assign rfl) trivial rfl ?_
          refine o_rd (rd_assign rfl) trivial rfl ?_
          refine runO_nil ?_
          refine run_ret Tryd.func45 (RV.tmp rfl (RV.tmp rfl RV.nil)) ?_
          -- ret 0 path K.K.c1t.c2t. L ['D', 'jb', 'all', 'parts', 'o']
          have hT3 : T = D.truncate file sz := by have c1 : (sz : Int) < bs.length := c1; rw [hT2, hjp]; exact if_pos (show sz < bs.length by omega)
          rw [hjp, hT3]
          exact .inr (.inl ⟨rfl, c2, rfl, (Sat.out 1 (Sat.out 2 (Sat.out 3 (Sat.out 4 h))))⟩)
        · refine runO_nil (run_cond_false rfl (run_skip (run_seq (run_region_lit ?_))))
          refine o_rd (rd_move rfl) trivial rfl ?_
          refine o_rd (rd_assign rfl) trivial rfl ?_
          refine o_rd (rd_assign rfl) trivial rfl ?_
          refine runO_nil ?_
          refine run_ret Tryd.func45 (RV.tmp rfl (RV.tmp rfl RV.nil)) ?_
          -- ret 1 path K.K.c1t.c2f. L ['D', 'jb', 'all', 'parts', 'o']
          have hT3 : T = D.truncate file sz := by have c1 : (sz : Int) < bs.length := c1; rw [hT2, hjp]; exact if_pos (show sz < bs.length by omega)
          rw [hjp, hT3]
          exact .inr (.inr ⟨rfl, c2, jb, rfl, jrnR_close (Sat.bring 3 (Sat.bring 3 (Sat.bring 3 (Sat.out 4 h))))⟩)
      · refine runO_nil (run_cond_false rfl (run_skip (run_seq (run_region_lit ?_))))
        refine o_rd (rd_move rfl) trivial rfl ?_
        refine o_rd (rd_assign rfl) trivial rfl ?_
        refine o_rd (rd_assign rfl) trivial rfl ?_
        refine runO_nil ?_
        refine run_ret Tryd.func45 (RV.tmp rfl (RV.tmp rfl RV.nil)) ?_
        -- ret 2 path K.K.c1f. L ['jb', 'all', 'parts', 'o', 'D']
        have hT3 : T = (D, 0) := by have c1 : ¬(sz : Int) < bs.length := c1; rw [hT2, hjp]; exact if_neg (show ¬sz < bs.length by omega)
        rw [hjp, hT3]
        exact .inr (.inr ⟨rfl, rfl, jb, rfl, jrnR_close (Sat.out 3 h)⟩)
    refine run_block ?_
    refine run_loop (σ := List (List UInt8) × List UInt8 × Nat) (fun (RS, bl, sz) => [(0, .pointer (some ⟨d, 0, none⟩)), (1, .string file), (6, .slice a2 bs.length c2), (8, .pointer (some ⟨jb, 0, none⟩)), (9, .pointer (some ⟨rd, 0, none⟩))]) (fun (RS, bl, sz) w => Sat w (jrnR jb d file ⟨RS, sz, false⟩ :: rdrR rd bl 0 :: OwnS 5 1 (.slice a2 bs.length c2) (bcells bs) :: diskR d D :: R) ∧ sz + bl.length = bs.length ∧ jparse bs = (RS ++ (jparse bl).1, sz + (jparse bl).2.1, (jparse bl).2.2) ∧ RS.flatten.length ≤ sz ∧ RS.length ≤ sz) (fun (RS, bl, sz) => bl.length) ([], bs, 0) ?_ (sub_cons rfl (sub_cons rfl (sub_cons rfl (sub_cons rfl (sub_cons rfl (sub_nil _)))))) ?_
    · exact ⟨(Sat.bring 3 (Sat.bring 2 (Sat.bring 2 (Sat.bring 3 h)))), by omega, by simp, by simp, by simp⟩
    clear h
    rintro ⟨RS, bl, sz⟩ w ⟨h, hsz, hjp, hf1, hf2⟩ ih
    have ht1 := rText_le 262144 bl 0
    have hw1 := rWord_le (rText 262144 bl 0).2.1 (rText 262144 bl 0).2.2
    refine run_seq (run_seq (run_region_lit ?_))
    refine o_rd (rd_move rfl) trivial rfl ?_
    refine o_ef trivial (ef_call (Tryd.call74) rfl rfl ?_)
    refine FnC.mono (oc_Left (Sat.bring 1 h)) ?_
    rintro _ w ⟨rfl, h⟩
    refine o_tD (rd_gtr rfl rfl) trivial rfl (fun c3 => ?_) (fun c3 => ?_)
    · refine runO_nil (run_cond_true rfl (run_skip (run_block (run_seq (run_region_lit ?_)))))
      refine o_rd (rd_move rfl) trivial rfl ?_
      refine o_ef trivial (ef_call (Tryd.call74) rfl rfl ?_)
      refine FnC.mono (oc_Left h) ?_
      rintro _ w ⟨rfl, h⟩
      refine o_rd (rd_assign rfl) trivial rfl ?_
      refine runO_nil (run_seq (run_region_lit ?_))
      refine o_rd (rd_move rfl) trivial rfl ?_
      refine o_ef trivial (ef_call (Tryd.call75) rfl rfl ?_)
      refine FnC.mono (oc_Text (most := 262144) (by omega) h) ?_
      rintro _ w ⟨rfl, h⟩
      refine o_ef trivial (ef_convSB Tryd.underlying9 Tryd.underlying32 Tryd.underlying5 (by rw [bstr_size]; omega) rfl h rfl (fun pla pln plc w plh h => ?_))
      rw [bstr_list] at h
      rw [bstr_size] at plh
      subst plh
      refine o_rd (rd_assign rfl) trivial rfl ?_
      refine runO_nil (run_seq (run_region_lit ?_))
      refine o_rd (rd_move rfl) trivial rfl ?_
      refine o_ef trivial (ef_call (Tryd.call76) rfl rfl ?_)
      refine FnC.mono (oc_Word (Sat.bring 1 h)) ?_
      rintro _ w ⟨rfl, h⟩
      refine o_rd (rd_assign rfl) trivial rfl ?_
      refine runO_nil (run_seq (run_block (run_seq (run_region_lit ?_))))
      refine o_rd (rd_move rfl) trivial rfl ?_
      refine o_ef trivial (ef_call (Tryd.call77) rfl rfl ?_)
      refine FnC.mono (oc_Err h) ?_
      rintro _ w ⟨rfl, h⟩
      refine o_tD (rd_eql rfl rfl) trivial rfl (fun c4 => ?_) (fun c4 => ?_)
      · refine o_rd (rd_assign rfl) trivial rfl ?_
        refine runO_nil (run_cond_true rfl (run_exit rfl ?_))
        -- cut block 0 path K.L0.c3t.c4t. L ['rd', 'pl', 'J', 'o', 'D']
        rw [jparse_short (by omega) c4] at hjp
        exact run_fewer (sub_cons rfl (sub_cons rfl (sub_cons rfl (sub_cons rfl (sub_nil _))))) (cut2 (RS, sz) w ⟨(Sat.out 0 (Sat.out 1 h)), by rw [hjp]; simp⟩)
      · refine o_rd (rd_assign rfl) trivial rfl ?_
        refine runO_nil (run_cond_false rfl (run_seq (run_region_lit ?_)))
        refine o_rd (rd_move rfl) trivial rfl ?_
        refine o_ef trivial (ef_call (Tryd.call77) rfl rfl ?_)
        refine FnC.mono (oc_Err h) ?_
        rintro _ w ⟨rfl, h⟩
        refine o_tN (rd_neq rfl rfl) trivial rfl (fun c5 => ?_) (fun c5 => ?_)
        · refine o_rd (rd_move rfl) trivial rfl ?_
          refine o_pass rfl rfl rfl rfl ?_
          refine o_pass rfl rfl rfl rfl ?_
          refine o_pass rfl rfl rfl rfl ?_
          refine o_pass rfl rfl rfl rfl ?_
          refine o_rd (rd_pick_t rfl rfl) trivial rfl ?_
          refine o_rd (rd_assign rfl) trivial rfl ?_
          refine runO_nil (run_cond_true rfl (run_seq (run_region_lit ?_)))
          refine o_rd (rd_assign rfl) trivial rfl ?_
          refine o_rd (rd_assign rfl) trivial rfl ?_
          refine runO_nil ?_
          refine run_ret Tryd.func45 (RV.tmp rfl (RV.tmp rfl RV.nil)) ?_
          -- ret 3 path K.L0.c3t.c4f.c5t. L ['rd', 'pl', 'J', 'o', 'D']
          have hw := jparse_wrong (bs := bl) (by omega) c4 (.inl c5)
          rw [hw] at hjp
          exact .inl ⟨by rw [hjp], rfl, (Sat.out 0 (Sat.out 1 (Sat.out 2 (Sat.out 3 h))))⟩
        · refine o_rd (rd_move rfl) trivial rfl ?_
          refine o_rd (rd_move rfl) rfl rfl ?_
          refine o_rd (rd_move rfl) rfl rfl ?_
          refine o_ef rfl (ef_call (Tryd.call78) rfl rfl ?_)
          refine FnC.mono (oc_Hash (h.rowOf 1 rfl (fun g x => own_rowR g x)) (by omega)) ?_
          rintro _ _ ⟨rfl, rfl⟩
          refine o_tN (rd_neq rfl rfl) rfl rfl (fun c6 => ?_) (fun c6 => ?_)
          · refine o_rd (rd_pick_f rfl rfl) trivial rfl ?_
            refine o_rd (rd_assign rfl) trivial rfl ?_
            refine runO_nil (run_cond_true rfl (run_seq (run_region_lit ?_)))
            refine o_rd (rd_assign rfl) trivial rfl ?_
            refine o_rd (rd_assign rfl) trivial rfl ?_
            refine runO_nil ?_
            refine run_ret Tryd.func45 (RV.tmp rfl (RV.tmp rfl RV.nil)) ?_
            -- ret 4 path K.L0.c3t.c4f.c5f.c6t. L ['rd', 'pl', 'J', 'o', 'D']
            have hw := jparse_wrong (bs := bl) (by omega) c4 (.inr (fun e => c6 (by rw [e])))
            rw [hw] at hjp
            exact .inl ⟨by rw [hjp], rfl, (Sat.out 0 (Sat.out 1 (Sat.out 2 (Sat.out 3 h))))⟩
          · refine o_rd (rd_pick_f rfl rfl) trivial rfl ?_
            refine o_rd (rd_assign rfl) trivial rfl ?_
            refine runO_nil (run_cond_false rfl (run_skip (run_inBlock (run_region_lit ?_))))
            refine o_rd (rd_move rfl) trivial rfl ?_
            refine o_rd (rd_move rfl) trivial rfl ?_
            refine o_rd (rd_move rfl) trivial rfl ?_
            refine o_rd (rd_move rfl) trivial rfl ?_
            refine o_ef trivial (ef_call (Tryd.call74) rfl rfl ?_)
            refine FnC.mono (oc_Left h) ?_
            rintro _ w ⟨rfl, h⟩
            refine o_rd (Reads.to (v' := .int .i64 ((bl.length - (rWord (rText 262144 bl 0).2.1 (rText 262144 bl 0).2.2).2.1.length : Nat) : Int)) (rd_subi rfl rfl (by constructor <;> omega)) (congrArg (Value.int .i64) (Int.ofNat_sub (by omega)).symm)) trivial rfl ?_
            refine o_ef trivial (ef_call (Tryd.call79) rfl rfl ?_)
            refine FnC.mono (jr_add (J := ⟨RS, sz, false⟩) (n := bl.length - (rWord (rText 262144 bl 0).2.1 (rText 262144 bl 0).2.2).2.1.length) (fun g x => own_rowR g x) (by simp only []; omega) (by simp only []; omega) (by simp only []; omega) (Sat.bring 2 (Sat.bring 1 h))) ?_
            rintro _ w h
            refine runO_nil (run_inBlock ?_)
            -- round of loop 0 path K.L0.c3t.c4f.c5f.c6f. L ['J', 'pl', 'rd', 'o', 'D']
            have hg := jparse_go (bs := bl) c5 (Int.ofNat_inj.1 c6)
            obtain ⟨e0, hwl⟩ := rWord_len c5
            have htl := rText_len e0
            rw [c5] at h
            exact run_fewer (sub_cons rfl (sub_cons rfl (sub_cons rfl (sub_cons rfl (sub_cons rfl (sub_nil _)))))) (ih (RS ++ [(rText 262144 bl 0).1], (rWord (rText 262144 bl 0).2.1 (rText 262144 bl 0).2.2).2.1, sz + (bl.length - (rWord (rText 262144 bl 0).2.1 (rText 262144 bl 0).2.2).2.1.length)) w ⟨(Sat.out 1 h), by omega, by rw [hjp, hg]; simp [Nat.add_assoc], by simp only [List.flatten_append, List.flatten_cons, List.flatten_nil, List.length_append, List.length_nil]; omega, by simp only [List.length_append, List.length_cons, List.length_nil]; omega⟩ (by simp only []; omega))
    · refine runO_nil (run_cond_false rfl (run_exit rfl ?_))
      -- cut block 0 path K.L0.c3f. L ['rd', 'J', 'o', 'D']
      have e : bl = [] := List.length_eq_zero_iff.1 (by omega)
      subst e
      rw [jparse_nil] at hjp
      exact run_fewer (sub_cons rfl (sub_cons rfl (sub_cons rfl (sub_cons rfl (sub_nil _))))) (cut2 (RS, sz) w ⟨(Sat.out 0 h), by rw [hjp]; simp⟩)
  refine run_region_lit ?_
  refine o_rd (rd_move rfl) trivial rfl ?_
  refine o_tN (rd_neq rfl rfl) trivial rfl (fun c7 => ?_) (fun c7 => ?_)
  · refine o_rd (rd_move rfl) trivial rfl ?_
    refine o_rd (rd_move rfl) rfl rfl ?_
    refine o_tN (rd_neq rfl rfl) rfl rfl (fun c8 => ?_) (fun c8 => ?_)
    · exfalso; revert c7 c8; split <;> simp
    · refine o_rd (rd_pick_t rfl rfl) trivial rfl ?_
      refine runO_nil (run_cond_false rfl (run_skip ?_))
      -- cut region 4 path c7t.c8f. L ['o', 'D']
      exact run_fewer (sub_cons rfl (sub_cons rfl (sub_cons rfl (sub_nil _)))) (cut1 () w h)
  · refine o_rd (rd_move rfl) trivial rfl ?_
    refine o_pass rfl rfl rfl rfl ?_
    refine o_pass rfl rfl rfl rfl ?_
    refine o_rd (rd_pick_f rfl rfl) trivial rfl ?_
    refine runO_nil (run_cond_false rfl (run_skip ?_))
    -- cut region 4 path c7f. L ['o', 'D']
    exact run_fewer (sub_cons rfl (sub_cons rfl (sub_cons rfl (sub_nil _)))) (cut1 () w h)

end Go.Proofs.YtmhpgdpegneejaaDoor
