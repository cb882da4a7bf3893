import Derived.Test.YtmhpgdpegneejaaDoorRs0
import Derived.Test.YtmhpgdpegneejaaDoorNa1
import Derived.Test.YtmhpgdpegneejaaDoorJr1
import Derived.Test.YtmhpgdpegneejaaDoorNm1
set_option maxRecDepth 100000
set_option linter.unusedVariables false
set_option linter.unusedSimpArgs false
namespace Go.Proofs.YtmhpgdpegneejaaDoor
open Go Go.Proofs Go.Proofs.Slx
theorem rs_lay {b m mc : Nat} {jv : Value} {K C : Ids} {w : World} {R : List Hp} (hK : (keys K).Nodup) (hC : (keys C).Nodup) (h : Sat w (pt b (.cells #[.map (some m), jv] 91) :: mapR strK m (encI K) :: mapR strK mc (encI C) :: R)) :
    FnC Tryd.prog 53 [.pointer (some ⟨b, 0, none⟩), .map (some mc)] w fun v w' => ∃ K', (∀ k, kget K' k = layG K C k) ∧ (keys K').Nodup ∧ Sat w' (pt b (.cells #[.map (some m), jv] 91) :: mapR strK m (encI K') :: mapR strK mc (encI C) :: R) := by
  refine fnC_of_run Tryd.func53 rfl Tryd.ntmps53 (Nat.le_of_ble_eq_true rfl) (fun cs => ?_)
  refine run_seq (run_region_lit ?_)
  refine o_rd (rd_move rfl) trivial rfl ?_
  refine o_ef trivial (ef_range Tryd.underlying43 2 rfl h rfl rfl (fun it w h => ?_))
  refine runO_nil (run_block ?_)
  refine run_loop (σ := Ids × List (ByteArray × Value) × Option (ByteArray × Value)) (fun (Kc, left, cur) => [(0, .pointer (some ⟨b, 0, none⟩)), (1, .map (some mc)), (7, .pointer (some ⟨it, 0, none⟩))]) (fun (Kc, left, cur) w => Sat w (pt b (.cells #[.map (some m), jv] 91) :: mapR strK m (encI Kc) :: iterR strK mc it (encI C) left cur :: R) ∧ LayS K C Kc left) (fun (Kc, left, cur) => left.length) (K, encI C, none) ?_ (sub_cons rfl (sub_cons rfl (sub_cons rfl (sub_nil _)))) ?_
  · exact ⟨h, LayS.start hK hC⟩
  clear h
  rintro ⟨Kc, left, cur⟩ w ⟨h, hs⟩ ih
  refine run_seq (run_region_lit ?_)
  refine o_ef trivial (ef_next 2 rfl h rfl rfl (fun hnil w h => ?_) (fun l1 q v l2 hl w h => ?_))
  · refine o_rd (rd_extract rfl rfl) trivial rfl ?_
    refine runO_nil (run_seq (run_cond_false rfl (run_exit rfl ?_)))
    refine run_end Tryd.func53 RV.nil ?_
    -- ret 0 path L0.N0. L ['b', 'm', 'mc']
    subst hnil
    exact ⟨Kc, fun k => hs.done k (by simp [keys]), hs.nd, h⟩
  · obtain ⟨id, rfl, hid⟩ := mem_encI hC (hs.sub (q, v) (by rw [hl]; simp))
    refine o_rd (rd_extract rfl rfl) trivial rfl ?_
    refine runO_nil (run_seq (run_cond_true rfl (run_skip (run_block (run_seq (run_region_lit ?_))))))
    refine o_ef trivial (ef_entry 2 rfl h rfl rfl ?_)
    refine o_rd (rd_extract rfl rfl) trivial rfl ?_
    refine o_rd (rd_extract rfl rfl) trivial rfl ?_
    refine o_rd (rd_assign rfl) trivial rfl ?_
    refine o_rd (rd_assign rfl) trivial rfl ?_
    refine runO_nil (run_seq (run_region_lit ?_))
    refine o_rd (rd_move rfl) trivial rfl ?_
    refine o_tD (rd_eql rfl rfl) trivial rfl (fun c1 => ?_) (fun c1 => ?_)
    · refine runO_nil (run_cond_true rfl (run_region_lit ?_))
      refine o_rd (rd_move rfl) trivial rfl ?_
      refine o_rd (rd_nil rfl) trivial rfl ?_
      refine o_rd (rd_fieldA F91_0 S43 rfl) trivial rfl ?_
      refine o_ld rfl (h.at_ 0 rfl) T43 rfl rfl trivial rfl ?_
      refine o_rd (rd_move rfl) trivial rfl ?_
      refine o_ef trivial (ef_delete Tryd.underlying43 K9 1 rfl rfl h rfl (fun w h => ?_))
      refine runO_nil (run_inBlock ?_)
      -- round of loop 0 path L0.N1.c1t. L ['b', 'm', 'mc']
      rw [kdel_encI] at h
      exact run_fewer (sub_cons rfl (sub_cons rfl (sub_cons rfl (sub_nil _)))) (ih (kdel Kc q, l1 ++ l2, some (q, .int .u64 (id : Int))) w ⟨h, hs.step hl hid (Slx.nodup_kdel hs.nd q) (fun k => by rw [kget_kdel hs.nd, if_pos (show id = 0 by omega)])⟩ (by simp only [hl, List.length_append, List.length_cons]; omega))
    · refine runO_nil (run_cond_false rfl (run_region_lit ?_))
      refine o_rd (rd_move rfl) trivial rfl ?_
      refine o_rd (rd_nil rfl) trivial rfl ?_
      refine o_rd (rd_fieldA F91_0 S43 rfl) trivial rfl ?_
      refine o_ld rfl (h.at_ 0 rfl) T43 rfl rfl trivial rfl ?_
      refine o_rd (rd_move rfl) trivial rfl ?_
      refine o_rd (rd_move rfl) trivial rfl ?_
      refine o_ef trivial (ef_mapUpdate Tryd.underlying43 K9 1 rfl rfl rfl h rfl (fun w h => ?_))
      refine runO_nil (run_inBlock ?_)
      -- round of loop 0 path L0.N1.c1f. L ['b', 'm', 'mc']
      replace h := Sat.conv (B := mapR strK m (encI (kset Kc q id))) 1 h rfl (fun _ x => by rw [← kset_encI]; exact x)
      exact run_fewer (sub_cons rfl (sub_cons rfl (sub_cons rfl (sub_nil _)))) (ih (kset Kc q id, l1 ++ l2, some (q, .int .u64 (id : Int))) w ⟨h, hs.step hl hid (Slx.nodup_kset hs.nd q id) (fun k => by rw [kget_kset, if_neg (show ¬id = 0 by omega)])⟩ (by simp only [hl, List.length_append, List.length_cons]; omega))

theorem keysI_iter {bx m : Nat} {kvs : List (ByteArray × Value)} {fv : Value} {Rf : List ByteArray → List Hp} {w : World}
    (hy : ∀ (done : List ByteArray) (k : ByteArray) (X : Hp) (w : World), (∃ rest, (done ++ k :: rest).Perm (keys kvs)) → Sat w (X :: Rf done) → CallV Tryd.prog fv [strK k] w fun v w' => v = .bool true ∧ Sat w' (X :: Rf (done ++ [k]))) (h : Sat w (pt bx (.cells #[.map (some m)] 43) :: mapR strK m kvs :: Rf [])) :
    FnC Tryd.prog 89 [fv, .pointer (some ⟨bx, 0, none⟩)] w fun v w' => ∃ done : List ByteArray, done.Perm (keys kvs) ∧ Sat w' (pt bx (.cells #[.map (some m)] 43) :: mapR strK m kvs :: Rf done) := by
  refine fnC_of_run Tryd.func89 rfl Tryd.ntmps89 (Nat.le_of_ble_eq_true rfl) (fun cs => ?_)
  refine run_seq (run_region_lit ?_)
  refine o_ld rfl (h.at_ 0 rfl) T43 rfl rfl trivial rfl ?_
  refine o_ef trivial (ef_range Tryd.underlying43 1 rfl h rfl rfl (fun it w h => ?_))
  refine runO_nil (run_block ?_)
  refine run_loop (σ := List (ByteArray × Value) × Option (ByteArray × Value) × List ByteArray) (fun (left, cur, done) => [(0, fv), (5, .pointer (some ⟨it, 0, none⟩))]) (fun (left, cur, done) w => Sat w (pt bx (.cells #[.map (some m)] 43) :: iterR strK m it kvs left cur :: Rf done) ∧ (done ++ keys left).Perm (keys kvs)) (fun (left, cur, done) => left.length) (kvs, none, []) ?_ (sub_cons rfl (sub_cons rfl (sub_nil _))) ?_
  · exact ⟨h, by simp⟩
  clear h
  rintro ⟨left, cur, done⟩ w ⟨h, hp⟩ ih
  refine run_seq (run_region_lit ?_)
  refine o_ef trivial (ef_next 1 rfl h rfl rfl (fun hnil w h => ?_) (fun l1 q v l2 hl w h => ?_))
  · refine o_rd (rd_extract rfl rfl) trivial rfl ?_
    refine runO_nil (run_seq (run_cond_false rfl (run_exit rfl ?_)))
    refine run_end Tryd.func89 RV.nil ?_
    -- ret 0 path L0.N0. L ['bx', 'm']
    subst hnil
    exact ⟨done, by simpa [keys] using hp, h⟩
  · have hpk := perm_mid hp hl
    refine o_rd (rd_extract rfl rfl) trivial rfl ?_
    refine runO_nil (run_seq (run_cond_true rfl (run_skip (run_block (run_seq (run_region_lit ?_))))))
    refine o_ef trivial (ef_entry 1 rfl h rfl rfl ?_)
    refine o_rd (rd_extract rfl rfl) trivial rfl ?_
    refine o_rd (rd_assign rfl) trivial rfl ?_
    refine runO_nil (run_seq (run_region_lit ?_))
    refine o_rd (rd_move rfl) trivial rfl ?_
    refine o_rd (rd_move rfl) trivial rfl ?_
    refine o_ef trivial (ef_callFV rfl rfl rfl ?_)
    refine CallV.mono (hy done q _ _ ⟨_, hpk⟩ (Sat.part (L := [_, _]) h)) ?_
    rintro _ w ⟨rfl, h⟩
    replace h := h.join
    refine o_rd (rd_not rfl) trivial rfl ?_
    refine runO_nil (run_cond_false rfl (run_skip (run_inBlock ?_)))
    -- round of loop 0 path L0.N1. L ['bx', 'm']
    exact run_fewer (sub_cons rfl (sub_cons rfl (sub_nil _))) (ih (l1 ++ l2, some (q, v), done ++ [q]) w ⟨h, by simpa using hpk⟩ (by simp only [hl, List.length_append, List.length_cons]; omega))

theorem keysI_seq {bx m : Nat} {kvs : List (ByteArray × Value)} : SeqS Tryd.prog 89 [.pointer (some ⟨bx, 0, none⟩)] (all [pt bx (.cells #[.map (some m)] 43), mapR strK m kvs]) (keys kvs) strK := by
  intro fv Rf w hy h
  refine FnC.mono (keysI_iter hy h.join) ?_
  rintro _ w ⟨done, hp, h⟩
  exact ⟨done, hp, Sat.part (L := [_, _]) h⟩

theorem maps_KeysI {m : Nat} {w : World} {R : List Hp} (h : Sat w R) :
    FnC Tryd.prog 56 [.map (some m)] w fun v w' => ∃ bx, v = .func (.func 89) #[] #[.pointer (some ⟨bx, 0, none⟩)] ∧ Sat w' (pt bx (.cells #[.map (some m)] 43) :: R) := by
  refine fnC_of_run Tryd.func56 rfl Tryd.ntmps56 (Nat.le_of_ble_eq_true rfl) (fun cs => ?_)
  refine run_seq (run_region_lit ?_)
  refine o_ef trivial (ef_box rfl rfl h (fun bx w h => ?_))
  replace h := Sat.conv (B := pt bx (.cells #[.map (some m)] 43)) 0 h rfl (fun _ x => x)
  refine o_rd (rd_assign rfl) trivial rfl ?_
  refine runO_nil (run_seq (run_region_lit ?_))
  refine o_rd (rd_funcL rfl) trivial rfl ?_
  refine o_rd (rd_assign rfl) trivial rfl ?_
  refine runO_nil ?_
  refine run_ret Tryd.func56 (RV.tmp rfl RV.nil) ?_
  -- ret 0 path  L ['bx']
  exact ⟨bx, rfl, h⟩

theorem rs_Len {b : Nat} {jv : Value} {I : Ids} {w : World} {R : List Hp} (h : Sat w (idsR b jv I :: R)) :
    FnC Tryd.prog 27 [.pointer (some ⟨b, 0, none⟩)] w fun v w' => v = .int .i64 I.length ∧ Sat w' (idsR b jv I :: R) := by
  obtain ⟨m, K, hE, h⟩ := idsR_open h
  refine fnC_of_run Tryd.func27 rfl Tryd.ntmps27 (Nat.le_of_ble_eq_true rfl) (fun cs => ?_)
  refine run_seq (run_region_lit ?_)
  refine o_rd (rd_assign rfl) trivial rfl ?_
  refine runO_nil (run_seq (run_seq (run_region_lit ?_)))
  refine o_rd (rd_move rfl) trivial rfl ?_
  refine o_rd (rd_eqlP0 T39 rfl rfl) trivial rfl ?_
  refine runO_nil (run_cond_false rfl (run_skip (run_seq ?_)))
  obtain ⟨es1, ck1, hm1, h⟩ := h.mapOpen 1 rfl
  have hz1 := hm1.len
  refine run_region_lit ?_
  refine o_rd (rd_move rfl) trivial rfl ?_
  refine o_rd (rd_nil rfl) trivial rfl ?_
  refine o_rd (rd_fieldA F91_0 S43 rfl) trivial rfl ?_
  refine o_ld rfl (h.at_ 0 rfl) T43 rfl rfl trivial rfl ?_
  refine o_lenM rfl (h.at_ 1 rfl) T43 trivial rfl ?_
  refine o_rd (rd_assign rfl) trivial rfl ?_
  refine runO_nil ?_
  replace h := h.mapClose 1 rfl hm1
  refine run_ret Tryd.func27 (RV.tmp rfl RV.nil) ?_
  -- ret 0 path  L ['b', 'm']
  have hq := hE.len
  rw [len_encI] at hz1
  exact ⟨congrArg (Value.int .i64) (show (es1.size : Int) = I.length by omega), idsR_close hE h⟩

theorem rs_Get {b : Nat} {jv : Value} {I : Ids} {k : ByteArray} {w : World} {R : List Hp} (h : Sat w (idsR b jv I :: R)) :
    FnC Tryd.prog 19 [.pointer (some ⟨b, 0, none⟩), .string k] w fun v w' => v = .tuple #[.int .u64 (((kget I k).getD 0 : Nat) : Int), .int .i64 (if (kget I k).isSome = true then 0 else 4)] ∧ Sat w' (idsR b jv I :: R) := by
  obtain ⟨m, K, hE, h⟩ := idsR_open h
  refine fnC_of_run Tryd.func19 rfl Tryd.ntmps19 (Nat.le_of_ble_eq_true rfl) (fun cs => ?_)
  refine run_seq (run_region_lit ?_)
  refine o_rd (rd_assign rfl) trivial rfl ?_
  refine o_rd (rd_assign rfl) trivial rfl ?_
  refine runO_nil (run_seq (run_seq (run_region_lit ?_)))
  refine o_rd (rd_move rfl) trivial rfl ?_
  refine o_rd (rd_eqlP0 T39 rfl rfl) trivial rfl ?_
  refine runO_nil (run_cond_false rfl (run_skip (run_seq ?_)))
  obtain ⟨es1, ck1, hm1, h⟩ := h.mapOpen 1 rfl
  have hz1 := hm1.len
  refine run_region_lit ?_
  refine o_rd (rd_move rfl) trivial rfl ?_
  refine o_rd (rd_nil rfl) trivial rfl ?_
  refine o_rd (rd_fieldA F91_0 S43 rfl) trivial rfl ?_
  refine o_ld rfl (h.at_ 0 rfl) T43 rfl rfl trivial rfl ?_
  refine o_rd (rd_move rfl) trivial rfl ?_
  refine o_look2 hm1 K9 Tryd.underlying43 S46 rfl (h.at_ 1 rfl) rfl trivial rfl ?_
  refine o_rd (rd_move rfl) trivial rfl ?_
  refine o_rd (Reads.to (v' := .int .u64 (((kget I k).getD 0 : Nat) : Int)) (rd_extract rfl rfl) (look_id hE k)) trivial rfl ?_
  refine o_test (rd_extract rfl rfl) trivial rfl (fun c2 => ?_) (fun c2 => ?_)
  · refine o_rd (rd_assign rfl) trivial rfl ?_
    refine o_rd (rd_assign rfl) trivial rfl ?_
    refine runO_nil ?_
    replace h := h.mapClose 1 rfl hm1
    refine run_seq (run_seq (run_region_lit ?_))
    refine o_rd (rd_move rfl) trivial rfl ?_
    refine o_rd (rd_not rfl) trivial rfl ?_
    refine runO_nil (run_cond_false rfl (run_skip (run_seq (run_region_lit ?_))))
    refine o_rd (rd_move rfl) trivial rfl ?_
    refine o_rd (rd_assign rfl) trivial rfl ?_
    refine o_rd (rd_assign rfl) trivial rfl ?_
    refine runO_nil ?_
    refine run_ret Tryd.func19 (RV.tmp rfl (RV.tmp rfl RV.nil)) ?_
    -- ret 0 path c2t. L ['b', 'm']
    rw [look_is hE] at c2
    rw [if_pos c2]
    exact ⟨rfl, idsR_close hE h⟩
  · refine o_rd (rd_assign rfl) trivial rfl ?_
    refine o_rd (rd_assign rfl) trivial rfl ?_
    refine runO_nil ?_
    replace h := h.mapClose 1 rfl hm1
    refine run_seq (run_seq (run_region_lit ?_))
    refine o_rd (rd_move rfl) trivial rfl ?_
    refine o_rd (rd_not rfl) trivial rfl ?_
    refine runO_nil (run_cond_true rfl (run_seq (run_region_lit ?_)))
    refine o_rd (rd_assign rfl) trivial rfl ?_
    refine o_rd (rd_assign rfl) trivial rfl ?_
    refine runO_nil ?_
    refine run_ret Tryd.func19 (RV.tmp rfl (RV.tmp rfl RV.nil)) ?_
    -- ret 1 path c2f. L ['b', 'm']
    rw [look_is hE] at c2
    have e : kget I k = none := by simpa using c2
    rw [e]
    exact ⟨rfl, idsR_close hE h⟩

theorem rs_All {v0 : Value} {w : World} {R : List Hp} (hv : v0.cells = #[v0]) (h : Sat w R) :
    FnC Tryd.prog 25 [v0] w fun v w' => ∃ bx, v = .func (.func 54) #[] #[.pointer (some ⟨bx, 0, none⟩)] ∧ Sat w' (pt bx (.cells #[v0] 39) :: R) := by
  refine fnC_of_run Tryd.func25 rfl Tryd.ntmps25 (Nat.le_of_ble_eq_true rfl) (fun cs => ?_)
  refine run_seq (run_region_lit ?_)
  refine o_ef trivial (ef_box rfl rfl h (fun bx w h => ?_))
  refine o_rd (rd_assign rfl) trivial rfl ?_
  refine runO_nil ?_
  rw [hv] at h
  refine run_seq (run_region_lit ?_)
  refine o_rd (rd_funcL rfl) trivial rfl ?_
  refine o_rd (rd_assign rfl) trivial rfl ?_
  refine runO_nil ?_
  refine run_ret Tryd.func25 (RV.tmp rfl RV.nil) ?_
  -- ret 0 path  L ['bx']
  exact ⟨bx, rfl, h⟩

theorem rs_iter {bx b : Nat} {jv : Value} {I : Ids} {fv : Value} {Rg : Nat → List Hp} {Rz : List Hp} {w : World} (hlen : I.length ≤ 1000000)
    (hy : ∀ (i : Nat) (k : ByteArray) (X : Hp) (w : World), (sortS (keys I))[i]? = some k → Sat w (X :: idsR b jv I :: Rg i) → CallV Tryd.prog fv [.string k, .int .u64 (((kget I k).getD 0 : Nat) : Int)] w fun v w' => (v = .bool true ∧ Sat w' (X :: idsR b jv I :: Rg (i + 1))) ∨ (v = .bool false ∧ Sat w' (X :: idsR b jv I :: Rz))) (h : Sat w (pt bx (.cells #[.pointer (some ⟨b, 0, none⟩)] 39) :: idsR b jv I :: Rg 0)) :
    FnC Tryd.prog 54 [fv, .pointer (some ⟨bx, 0, none⟩)] w fun v w' => Sat w' (pt bx (.cells #[.pointer (some ⟨b, 0, none⟩)] 39) :: idsR b jv I :: Rg (sortS (keys I)).length) ∨ Sat w' (pt bx (.cells #[.pointer (some ⟨b, 0, none⟩)] 39) :: idsR b jv I :: Rz) := by
  refine fnC_of_run Tryd.func54 rfl Tryd.ntmps54 (Nat.le_of_ble_eq_true rfl) (fun cs => ?_)
  refine run_seq (run_seq (run_region_lit ?_))
  refine o_ld rfl (h.at_ 0 rfl) T39 rfl rfl trivial rfl ?_
  refine o_rd (rd_eqlP0 T39 rfl rfl) trivial rfl ?_
  refine runO_nil (run_cond_false rfl (run_skip (run_seq ?_)))
  obtain ⟨m, K, hE, h⟩ := idsR_open (Sat.bring 1 h)
  refine run_region_lit ?_
  refine o_ld rfl (h.at_ 2 rfl) T39 rfl rfl trivial rfl ?_
  refine o_rd (rd_nil rfl) trivial rfl ?_
  refine o_rd (rd_fieldA F91_0 S43 rfl) trivial rfl ?_
  refine o_ld rfl (h.at_ 0 rfl) T43 rfl rfl trivial rfl ?_
  refine o_ef trivial (ef_call (Tryd.call56) rfl rfl ?_)
  refine FnC.mono (maps_KeysI h) ?_
  rintro _ w ⟨kx, rfl, h⟩
  refine o_ef trivial (ef_call (Tryd.call55) rfl rfl ?_)
  refine FnC.mono (sorted_seq (cap := [.pointer (some ⟨kx, 0, none⟩)]) keysI_seq Tryd.call89 (by rw [keys_encI]; have := hE.len; simp only [keys, List.length_map]; omega) sort_slices (Sat.part (L := [_, _]) (Sat.bring 1 (Sat.bring 2 h)))) ?_
  rintro _ w ⟨a2, c2, rfl, h⟩
  replace h := (Sat.swap h).join
  rw [keys_encI, sortS_perm hE.perm] at h ⊢
  refine o_rd (rd_len (u := 0) T77 rfl) trivial rfl ?_
  refine o_rd (rd_move rfl) trivial rfl ?_
  refine runO_nil ?_
  replace h := idsR_close hE (Sat.bring 3 (Sat.bring 2 (Sat.bring 2 (Sat.bring 3 (Sat.out 0 h)))))
  obtain ⟨a5, n5, c5, e5, _, hc5, hm5, _⟩ := Sat.ownRow 1 h rfl
  refine run_block ?_
  refine run_loop (σ := Nat) (fun i => [(0, fv), (1, .pointer (some ⟨bx, 0, none⟩)), (12, .slice a2 (sortS (keys I)).length c2), (13, .int .i64 (sortS (keys I)).length), (14, .int .i64 (i : Nat))]) (fun i w => Sat w (idsR b jv I :: OwnS 9 1 (.slice a2 (sortS (keys I)).length c2) (scells (sortS (keys I))) :: pt bx (.cells #[.pointer (some ⟨b, 0, none⟩)] 39) :: Rg i) ∧ i ≤ (sortS (keys I)).length) (fun i => (sortS (keys I)).length - i) 0 ?_ (sub_cons rfl (sub_cons rfl (sub_cons rfl (sub_cons rfl (sub_cons rfl (sub_nil _)))))) ?_
  · exact ⟨h, Nat.zero_le _⟩
  clear h
  rintro i w ⟨h, hi⟩ ih
  refine run_seq (run_region_lit ?_)
  refine o_tD (rd_lss rfl rfl) trivial rfl (fun c1 => ?_) (fun c1 => ?_)
  · refine runO_nil (run_seq (run_cond_true rfl (run_skip (run_seq (run_block (run_seq ?_))))))
    obtain ⟨k, hk⟩ : ∃ k, (sortS (keys I))[i]? = some k := ⟨_, List.getElem?_eq_getElem (by omega)⟩
    obtain ⟨a3, n3, c3, e3, _, _, _, hrow⟩ := Sat.ownRow 1 h rfl
    cases e3
    obtain ⟨bb, oo, C, E, fr, rfl, hb, hcell⟩ := RowW.get hrow (scells_get hk)
    refine run_region_lit ?_
    refine o_rd (Reads.to (v' := .pointer (some ⟨bb, oo + i, none⟩)) (rd_idx T77 S9 rfl rfl (by omega) (by omega)) (by simp)) trivial rfl ?_
    refine o_ld rfl hb T9 rfl (hcell _ _ (scells_get hk)) trivial rfl ?_
    refine o_rd (rd_assign rfl) trivial rfl ?_
    refine runO_nil (run_seq ?_)
    obtain ⟨m, K, hE, h⟩ := idsR_open h
    obtain ⟨es2, ck2, hm2, h⟩ := h.mapOpen 1 rfl
    have hz2 := hm2.len
    refine run_region_lit ?_
    refine o_rd (rd_move rfl) trivial rfl ?_
    refine o_rd (rd_move rfl) trivial rfl ?_
    refine o_ld rfl (h.at_ 3 rfl) T39 rfl rfl trivial rfl ?_
    refine o_rd (rd_nil rfl) trivial rfl ?_
    refine o_rd (rd_fieldA F91_0 S43 rfl) trivial rfl ?_
    refine o_ld rfl (h.at_ 0 rfl) T43 rfl rfl trivial rfl ?_
    refine o_rd (rd_move rfl) trivial rfl ?_
    refine o_look1 hm2 K9 Tryd.underlying43 S46 rfl (h.at_ 1 rfl) rfl trivial rfl ?_
    replace h := h.mapClose 1 rfl hm2
    replace h := idsR_close hE h
    refine o_ef trivial (ef_callFV rfl rfl rfl ?_)
    refine CallV.mono (by have y := hy i k _ _ hk (Sat.bring 1 (sat_part1 (L := [_, _]) (Sat.bring 0 (Sat.bring 2 (Sat.bring 2 (Sat.bring 1 h)))))); rw [← look_id hE k] at y; exact y) ?_
    rintro _ w (⟨rfl, h⟩ | ⟨rfl, h⟩)
    · replace h := h.join
      refine o_rd (rd_not rfl) trivial rfl ?_
      refine runO_nil (run_cond_false rfl (run_skip (run_inBlock (run_region_lit ?_))))
      refine o_rd (rd_addi rfl rfl (by constructor <;> omega)) trivial rfl ?_
      refine o_rd (rd_move rfl) trivial rfl ?_
      refine runO_nil ?_
      -- round of loop 0 path L0.c1t.A0. L ['bx', 'own', 'ids']
      exact run_fewer (sub_cons rfl (sub_cons rfl (sub_cons rfl (sub_cons rfl (sub_cons rfl (sub_nil _)))))) (ih (i + 1) w ⟨(Sat.bring 2 (Sat.bring 1 h)), by omega⟩ (by omega))
    · replace h := h.join
      refine o_rd (rd_not rfl) trivial rfl ?_
      refine runO_nil (run_cond_true rfl ?_)
      refine run_ret Tryd.func54 RV.nil ?_
      -- ret 0 path L0.c1t.A1. L ['bx', 'own', 'ids']
      exact .inr (Sat.out 1 h)
  · refine runO_nil (run_seq (run_cond_false rfl (run_exit rfl ?_)))
    refine run_end Tryd.func54 RV.nil ?_
    -- ret 1 path L0.c1f. L ['ids', 'own', 'bx']
    obtain rfl : i = (sortS (keys I)).length := by omega
    exact .inl (Sat.bring 1 (Sat.out 1 h))

theorem rs_record {O : World} {b : Nat} {jv : Value} {I : Ids} {B : Hp} {a : Option Addr} {c : Nat} {bs : List UInt8} {w : World} {R : List Hp} (hB : ∀ g, B g → RowH g a (bcells bs)) (hbd : bs.length ≤ 10000000) (h : Sat w (idsR b jv I :: (mlR O) :: B :: R)) :
    FnC Tryd.prog 47 [.pointer (some ⟨b, 0, none⟩), .slice a bs.length c] w fun v w' => v = .bool (recOk I bs) ∧ Sat w' (idsR b jv (recI I bs) :: (mlR O) :: B :: R) := by
  refine fnC_of_run Tryd.func47 rfl Tryd.ntmps47 (Nat.le_of_ble_eq_true rfl) (fun cs => ?_)
  refine run_seq (run_region_lit ?_)
  refine o_rd (rd_assign rfl) trivial rfl ?_
  refine runO_nil (run_scope (run_seq (run_region_lit ?_)))
  refine o_rd (rd_move rfl) trivial rfl ?_
  refine o_ef trivial (ef_call (Tryd.call73) rfl rfl ?_)
  refine FnC.mono (oc_Read hB (by omega) (Sat.bring 2 h)) ?_
  rintro _ w ⟨rd, rfl, h⟩
  refine o_rd (rd_assign rfl) trivial rfl ?_
  refine runO_nil (run_seq (run_region_lit ?_))
  refine o_rd (rd_move rfl) trivial rfl ?_
  refine o_ef trivial (ef_call (Tryd.call83) rfl rfl ?_)
  refine FnC.mono (oc_Uint h) ?_
  rintro _ w ⟨rfl, h⟩
  refine o_rd (rd_assign rfl) trivial rfl ?_
  refine runO_nil (run_seq (run_region_lit ?_))
  refine o_ef trivial (ef_makeMap rfl h (fun mm w h => ?_))
  refine o_rd (rd_assign rfl) trivial rfl ?_
  refine runO_nil ?_
  replace h := Sat.conv (B := mapR strK mm (encI [])) 0 h rfl (mapR_empty strK mm)
  refine run_seq (run_label (run_seq (run_block ?_)))
  refine run_loop (σ := Nat × List UInt8 × Int × Ids) (fun (n, bl, er, met) => [(0, .pointer (some ⟨b, 0, none⟩)), (5, .pointer (some ⟨rd, 0, none⟩)), (6, .int .u64 (n : Nat)), (7, .map (some mm))]) (fun (n, bl, er, met) w => Sat w (idsR b jv I :: rdrR rd bl er :: mapR strK mm (encI met) :: (mlR O) :: B :: R) ∧ recL I n bl er met = recR I bs ∧ (keys met).Nodup ∧ n < 18446744073709551616) (fun (n, bl, er, met) => n) ((rUint bs 0).1, (rUint bs 0).2.1, (rUint bs 0).2.2, []) ?_ (sub_cons rfl (sub_cons rfl (sub_cons rfl (sub_cons rfl (sub_nil _))))) ?_
  · exact ⟨(Sat.bring 4 (Sat.bring 3 (Sat.bring 2 (Sat.bring 4 (Sat.bring 2 h))))), rfl, by simp [keys], rUint_range bs 0⟩
  clear h
  rintro ⟨n, bl, er, met⟩ w ⟨h, hrec, hnd, hn⟩ ih
  refine run_seq (run_seq (run_region_lit ?_))
  refine o_rd (rd_move rfl) trivial rfl ?_
  refine o_tD (rd_gtr rfl rfl) trivial rfl (fun c1 => ?_) (fun c1 => ?_)
  · refine runO_nil (run_cond_true rfl (run_skip (run_seq (run_block (run_seq (run_region_lit ?_))))))
    refine o_rd (rd_move rfl) trivial rfl ?_
    refine o_ef trivial (ef_call (Tryd.call75) rfl rfl ?_)
    refine FnC.mono (oc_Text (most := 200) (by omega) (Sat.bring 1 h)) ?_
    rintro _ w ⟨rfl, h⟩
    refine o_rd (rd_assign rfl) trivial rfl ?_
    refine runO_nil (run_seq (run_region_lit ?_))
    refine o_rd (rd_move rfl) trivial rfl ?_
    refine o_ef trivial (ef_call (Tryd.call76) rfl rfl ?_)
    refine FnC.mono (oc_Word h) ?_
    rintro _ w ⟨rfl, h⟩
    refine o_rd (rd_assign rfl) trivial rfl ?_
    refine runO_nil (run_seq ?_)
    obtain ⟨es2, ck2, hm2, h⟩ := h.mapOpen 2 rfl
    have hz2 := hm2.len
    refine run_region_lit ?_
    refine o_rd (rd_move rfl) trivial rfl ?_
    refine o_rd (rd_move rfl) trivial rfl ?_
    refine o_look2 hm2 K9 Tryd.underlying43 S46 rfl (h.at_ 2 rfl) rfl trivial rfl ?_
    refine o_rd (rd_move rfl) trivial rfl ?_
    refine o_rd (rd_extract rfl rfl) trivial rfl ?_
    refine o_test (rd_extract rfl rfl) trivial rfl (fun c3 => ?_) (fun c3 => ?_)
    · refine o_rd (rd_assign rfl) trivial rfl ?_
      refine o_rd (rd_assign rfl) trivial rfl ?_
      refine runO_nil ?_
      replace h := h.mapClose 2 rfl hm2
      refine run_seq (run_seq (run_region_lit ?_))
      refine o_rd (rd_move rfl) trivial rfl ?_
      refine o_ef trivial (ef_call (Tryd.call77) rfl rfl ?_)
      refine FnC.mono (oc_Err h) ?_
      rintro _ w ⟨rfl, h⟩
      refine o_tN (rd_neq rfl rfl) trivial rfl (fun c4 => ?_) (fun c4 => ?_)
      · refine o_rd (rd_move rfl) trivial rfl ?_
        refine o_pass rfl rfl rfl rfl ?_
        refine o_rd (rd_pick_t rfl rfl) trivial rfl ?_
        refine o_rd (rd_move rfl) trivial rfl ?_
        refine o_pass rfl rfl rfl rfl ?_
        refine o_pass rfl rfl rfl rfl ?_
        refine o_pass rfl rfl rfl rfl ?_
        refine o_rd (rd_pick_t rfl rfl) trivial rfl ?_
        refine runO_nil (run_cond_true rfl (run_seq (run_region_lit ?_)))
        refine o_rd (rd_assign rfl) trivial rfl ?_
        refine runO_nil ?_
        refine run_ret Tryd.func47 (RV.tmp rfl RV.nil) ?_
        -- ret 0 path L0.c1t.c3t.c4t. L ['rd', 'ids', 'mm', 'ml', 'B']
        have hr : recR I bs = none := by
          rw [← hrec]
          exact recL_bad (by omega) (.inl c4)
        rw [show recOk I bs = false by simp only [recOk, hr], show recI I bs = I by simp only [recI, hr]]
        exact ⟨rfl, (Sat.out 0 (Sat.out 2 h))⟩
      · refine o_rd (rd_move rfl) trivial rfl ?_
        refine o_rd (rd_move rfl) rfl rfl ?_
        refine o_rd (rd_pick_f rfl rfl) trivial rfl ?_
        refine o_rd (rd_move rfl) trivial rfl ?_
        refine o_pass rfl rfl rfl rfl ?_
        refine o_pass rfl rfl rfl rfl ?_
        refine o_pass rfl rfl rfl rfl ?_
        refine o_rd (rd_pick_t rfl rfl) trivial rfl ?_
        refine runO_nil (run_cond_true rfl (run_seq (run_region_lit ?_)))
        refine o_rd (rd_assign rfl) trivial rfl ?_
        refine runO_nil ?_
        refine run_ret Tryd.func47 (RV.tmp rfl RV.nil) ?_
        -- ret 1 path L0.c1t.c3t.c4f. L ['rd', 'ids', 'mm', 'ml', 'B']
        have hr : recR I bs = none := by
          rw [← hrec]
          rw [kget_encI, Option.isSome_map] at c3
          exact recL_bad (by omega) (.inr (.inl c3))
        rw [show recOk I bs = false by simp only [recOk, hr], show recI I bs = I by simp only [recI, hr]]
        exact ⟨rfl, (Sat.out 0 (Sat.out 2 h))⟩
    · refine o_rd (rd_assign rfl) trivial rfl ?_
      refine o_rd (rd_assign rfl) trivial rfl ?_
      refine runO_nil ?_
      replace h := h.mapClose 2 rfl hm2
      refine run_seq (run_seq (run_region_lit ?_))
      refine o_rd (rd_move rfl) trivial rfl ?_
      refine o_ef trivial (ef_call (Tryd.call77) rfl rfl ?_)
      refine FnC.mono (oc_Err h) ?_
      rintro _ w ⟨rfl, h⟩
      refine o_tN (rd_neq rfl rfl) trivial rfl (fun c5 => ?_) (fun c5 => ?_)
      · refine o_rd (rd_move rfl) trivial rfl ?_
        refine o_pass rfl rfl rfl rfl ?_
        refine o_rd (rd_pick_t rfl rfl) trivial rfl ?_
        refine o_rd (rd_move rfl) trivial rfl ?_
        refine o_pass rfl rfl rfl rfl ?_
        refine o_pass rfl rfl rfl rfl ?_
        refine o_pass rfl rfl rfl rfl ?_
        refine o_rd (rd_pick_t rfl rfl) trivial rfl ?_
        refine runO_nil (run_cond_true rfl (run_seq (run_region_lit ?_)))
        refine o_rd (rd_assign rfl) trivial rfl ?_
        refine runO_nil ?_
        refine run_ret Tryd.func47 (RV.tmp rfl RV.nil) ?_
        -- ret 2 path L0.c1t.c3f.c5t. L ['rd', 'ids', 'mm', 'ml', 'B']
        have hr : recR I bs = none := by
          rw [← hrec]
          exact recL_bad (by omega) (.inl c5)
        rw [show recOk I bs = false by simp only [recOk, hr], show recI I bs = I by simp only [recI, hr]]
        exact ⟨rfl, (Sat.out 0 (Sat.out 2 h))⟩
      · refine o_rd (rd_move rfl) trivial rfl ?_
        refine o_rd (rd_move rfl) rfl rfl ?_
        refine o_rd (rd_pick_f rfl rfl) trivial rfl ?_
        refine o_rd (rd_move rfl) trivial rfl ?_
        refine o_rd (rd_move rfl) rfl rfl ?_
        refine o_ef rfl (ef_call (Tryd.call48) rfl rfl ?_)
        refine FnC.mono (rs_may (Sat.bring 3 h)) ?_
        rintro _ w ⟨rfl, h⟩
        refine o_tN (rd_neq rfl rfl) rfl rfl (fun c6 => ?_) (fun c6 => ?_)
        · refine o_rd (rd_pick_f rfl rfl) trivial rfl ?_
          refine runO_nil (run_cond_true rfl (run_seq (run_region_lit ?_)))
          refine o_rd (rd_assign rfl) trivial rfl ?_
          refine runO_nil ?_
          refine run_ret Tryd.func47 (RV.tmp rfl RV.nil) ?_
          -- ret 3 path L0.c1t.c3f.c5f.c6t. L ['ml', 'rd', 'ids', 'mm', 'B']
          have hr : recR I bs = none := by
            rw [← hrec]
            exact recL_bad (by omega) (.inr (.inr c6))
          rw [show recOk I bs = false by simp only [recOk, hr], show recI I bs = I by simp only [recI, hr]]
          exact ⟨rfl, (Sat.bring 2 (Sat.bring 1 (Sat.bring 2 (Sat.out 1 (Sat.out 3 h)))))⟩
        · refine o_rd (rd_pick_f rfl rfl) trivial rfl ?_
          refine runO_nil (run_cond_false rfl (run_skip (run_seq (run_seq ?_))))
          obtain ⟨m, K, hE, h⟩ := idsR_open (Sat.bring 4 (Sat.bring 3 (Sat.bring 4 (Sat.bring 1 (Sat.bring 4 h)))))
          obtain ⟨es7, ck7, hm7, h⟩ := h.mapOpen 1 rfl
          have hz7 := hm7.len
          refine run_region_lit ?_
          refine o_rd (rd_move rfl) trivial rfl ?_
          refine o_rd (rd_nil rfl) trivial rfl ?_
          refine o_rd (rd_fieldA F91_0 S43 rfl) trivial rfl ?_
          refine o_ld rfl (h.at_ 0 rfl) T43 rfl rfl trivial rfl ?_
          refine o_rd (rd_move rfl) trivial rfl ?_
          refine o_look2 hm7 K9 Tryd.underlying43 S46 rfl (h.at_ 1 rfl) rfl trivial rfl ?_
          refine o_rd (rd_move rfl) trivial rfl ?_
          refine o_rd (rd_extract rfl rfl) trivial rfl ?_
          refine o_test (rd_extract rfl rfl) trivial rfl (fun c8 => ?_) (fun c8 => ?_)
          · refine o_rd (rd_assign rfl) trivial rfl ?_
            refine o_rd (rd_assign rfl) trivial rfl ?_
            refine runO_nil ?_
            replace h := h.mapClose 1 rfl hm7
            replace h := idsR_close hE h
            refine run_seq (run_region_lit ?_)
            refine o_rd (rd_move rfl) trivial rfl ?_
            refine o_tD (rd_eql rfl rfl) trivial rfl (fun c9 => ?_) (fun c9 => ?_)
            · refine o_rd (rd_move rfl) trivial rfl ?_
              refine o_rd (rd_move rfl) rfl rfl ?_
              refine o_rd (rd_not rfl) rfl rfl ?_
              refine o_rd (rd_pick_t rfl rfl) trivial rfl ?_
              refine runO_nil (run_cond_false rfl (run_skip (run_seq (run_region_lit ?_))))
              refine o_rd (rd_move rfl) trivial rfl ?_
              refine o_rd (rd_move rfl) trivial rfl ?_
              refine o_rd (rd_move rfl) trivial rfl ?_
              refine o_ef trivial (ef_mapUpdate Tryd.underlying43 K9 2 rfl rfl rfl h rfl (fun w h => ?_))
              refine runO_nil (run_exit rfl (run_region_lit ?_))
              refine o_rd (rd_move rfl) trivial rfl ?_
              refine o_rd (Reads.to (v' := .int .u64 ((n - 1 : Nat) : Int)) (rd_sub rfl rfl) (by rw [show ((n : Int) - 1) = ((n - 1 : Nat) : Int) by omega]; exact convU64 (by omega))) trivial rfl ?_
              refine o_rd (rd_assign rfl) trivial rfl ?_
              refine runO_nil ?_
              -- round of loop 0 path L0.c1t.c3f.c5f.c6f.c8t.c9t. L ['ids', 'rd', 'mm', 'ml', 'B']
              replace h := Sat.conv (B := mapR strK mm (encI (kset met (bstr (rText 200 bl er).1) (rWord (rText 200 bl er).2.1 (rText 200 bl er).2.2).1))) 2 h rfl (fun _ x => by rw [← kset_encI]; exact x)
              exact run_fewer (sub_cons rfl (sub_cons rfl (sub_cons rfl (sub_cons rfl (sub_nil _))))) (ih (n - 1, (rWord (rText 200 bl er).2.1 (rText 200 bl er).2.2).2.1, (rWord (rText 200 bl er).2.1 (rText 200 bl er).2.2).2.2, kset met (bstr (rText 200 bl er).1) (rWord (rText 200 bl er).2.1 (rText 200 bl er).2.2).1) w ⟨h, by rw [← hrec]; exact (recL_go (by omega) (by rintro (q | q | q); exact q c5; (rw [kget_encI, Option.isSome_map] at c3; rw [q] at c3; cases c3); exact q c6) (fun q => by rw [look_is hE, q.2] at c8; cases c8)).symm, Slx.nodup_kset hnd _ _, by omega⟩ (by simp only []; omega))
            · refine o_rd (rd_move rfl) trivial rfl ?_
              refine o_pass rfl rfl rfl rfl ?_
              refine o_pass rfl rfl rfl rfl ?_
              refine o_rd (rd_pick_f rfl rfl) trivial rfl ?_
              refine runO_nil (run_cond_false rfl (run_skip (run_seq (run_region_lit ?_))))
              refine o_rd (rd_move rfl) trivial rfl ?_
              refine o_rd (rd_move rfl) trivial rfl ?_
              refine o_rd (rd_move rfl) trivial rfl ?_
              refine o_ef trivial (ef_mapUpdate Tryd.underlying43 K9 2 rfl rfl rfl h rfl (fun w h => ?_))
              refine runO_nil (run_exit rfl (run_region_lit ?_))
              refine o_rd (rd_move rfl) trivial rfl ?_
              refine o_rd (Reads.to (v' := .int .u64 ((n - 1 : Nat) : Int)) (rd_sub rfl rfl) (by rw [show ((n : Int) - 1) = ((n - 1 : Nat) : Int) by omega]; exact convU64 (by omega))) trivial rfl ?_
              refine o_rd (rd_assign rfl) trivial rfl ?_
              refine runO_nil ?_
              -- round of loop 0 path L0.c1t.c3f.c5f.c6f.c8t.c9f. L ['ids', 'rd', 'mm', 'ml', 'B']
              replace h := Sat.conv (B := mapR strK mm (encI (kset met (bstr (rText 200 bl er).1) (rWord (rText 200 bl er).2.1 (rText 200 bl er).2.2).1))) 2 h rfl (fun _ x => by rw [← kset_encI]; exact x)
              exact run_fewer (sub_cons rfl (sub_cons rfl (sub_cons rfl (sub_cons rfl (sub_nil _))))) (ih (n - 1, (rWord (rText 200 bl er).2.1 (rText 200 bl er).2.2).2.1, (rWord (rText 200 bl er).2.1 (rText 200 bl er).2.2).2.2, kset met (bstr (rText 200 bl er).1) (rWord (rText 200 bl er).2.1 (rText 200 bl er).2.2).1) w ⟨h, by rw [← hrec]; exact (recL_go (by omega) (by rintro (q | q | q); exact q c5; (rw [kget_encI, Option.isSome_map] at c3; rw [q] at c3; cases c3); exact q c6) (fun q => by rw [look_is hE, q.2] at c8; cases c8)).symm, Slx.nodup_kset hnd _ _, by omega⟩ (by simp only []; omega))
          · refine o_rd (rd_assign rfl) trivial rfl ?_
            refine o_rd (rd_assign rfl) trivial rfl ?_
            refine runO_nil ?_
            replace h := h.mapClose 1 rfl hm7
            replace h := idsR_close hE h
            refine run_seq (run_region_lit ?_)
            refine o_rd (rd_move rfl) trivial rfl ?_
            refine o_tD (rd_eql rfl rfl) trivial rfl (fun c10 => ?_) (fun c10 => ?_)
            · refine o_rd (rd_move rfl) trivial rfl ?_
              refine o_rd (rd_move rfl) rfl rfl ?_
              refine o_rd (rd_not rfl) rfl rfl ?_
              refine o_rd (rd_pick_t rfl rfl) trivial rfl ?_
              refine runO_nil (run_cond_true rfl (run_seq (run_region_lit ?_)))
              refine o_rd (rd_assign rfl) trivial rfl ?_
              refine runO_nil ?_
              refine run_ret Tryd.func47 (RV.tmp rfl RV.nil) ?_
              -- ret 4 path L0.c1t.c3f.c5f.c6f.c8f.c10t. L ['ids', 'rd', 'mm', 'ml', 'B']
              have hr : recR I bs = none := by
                rw [← hrec]
                rw [look_is hE] at c8
                exact recL_none (by omega) (by rintro (q | q | q); exact q c5; (rw [kget_encI, Option.isSome_map] at c3; rw [q] at c3; cases c3); exact q c6) (by omega) (by simpa using c8)
              rw [show recOk I bs = false by simp only [recOk, hr], show recI I bs = I by simp only [recI, hr]]
              exact ⟨rfl, (Sat.out 1 (Sat.out 2 h))⟩
            · refine o_rd (rd_move rfl) trivial rfl ?_
              refine o_pass rfl rfl rfl rfl ?_
              refine o_pass rfl rfl rfl rfl ?_
              refine o_rd (rd_pick_f rfl rfl) trivial rfl ?_
              refine runO_nil (run_cond_false rfl (run_skip (run_seq (run_region_lit ?_))))
              refine o_rd (rd_move rfl) trivial rfl ?_
              refine o_rd (rd_move rfl) trivial rfl ?_
              refine o_rd (rd_move rfl) trivial rfl ?_
              refine o_ef trivial (ef_mapUpdate Tryd.underlying43 K9 2 rfl rfl rfl h rfl (fun w h => ?_))
              refine runO_nil (run_exit rfl (run_region_lit ?_))
              refine o_rd (rd_move rfl) trivial rfl ?_
              refine o_rd (Reads.to (v' := .int .u64 ((n - 1 : Nat) : Int)) (rd_sub rfl rfl) (by rw [show ((n : Int) - 1) = ((n - 1 : Nat) : Int) by omega]; exact convU64 (by omega))) trivial rfl ?_
              refine o_rd (rd_assign rfl) trivial rfl ?_
              refine runO_nil ?_
              -- round of loop 0 path L0.c1t.c3f.c5f.c6f.c8f.c10f. L ['ids', 'rd', 'mm', 'ml', 'B']
              replace h := Sat.conv (B := mapR strK mm (encI (kset met (bstr (rText 200 bl er).1) (rWord (rText 200 bl er).2.1 (rText 200 bl er).2.2).1))) 2 h rfl (fun _ x => by rw [← kset_encI]; exact x)
              exact run_fewer (sub_cons rfl (sub_cons rfl (sub_cons rfl (sub_cons rfl (sub_nil _))))) (ih (n - 1, (rWord (rText 200 bl er).2.1 (rText 200 bl er).2.2).2.1, (rWord (rText 200 bl er).2.1 (rText 200 bl er).2.2).2.2, kset met (bstr (rText 200 bl er).1) (rWord (rText 200 bl er).2.1 (rText 200 bl er).2.2).1) w ⟨h, by rw [← hrec]; exact (recL_go (by omega) (by rintro (q | q | q); exact q c5; (rw [kget_encI, Option.isSome_map] at c3; rw [q] at c3; cases c3); exact q c6) (fun q => c10 (by omega))).symm, Slx.nodup_kset hnd _ _, by omega⟩ (by simp only []; omega))
  · refine runO_nil (run_cond_false rfl (run_exit rfl (run_seq ?_)))
    obtain ⟨m, K, hE, h⟩ := idsR_open h
    refine run_region_lit ?_
    refine o_rd (rd_move rfl) trivial rfl ?_
    refine o_rd (rd_move rfl) trivial rfl ?_
    refine o_ef trivial (ef_call (Tryd.call53) rfl rfl ?_)
    refine FnC.mono (rs_lay hE.2.1 hnd (Sat.bring 2 (Sat.bring 2 (Sat.bring 3 h)))) ?_
    rintro _ w ⟨K2, hk1, hk2, h⟩
    refine runO_nil (run_seq ?_)
    obtain ⟨es11, ck11, hm11, h⟩ := h.mapOpen 2 rfl
    have hz11 := hm11.len
    obtain ⟨es12, ck12, hm12, h⟩ := h.mapOpen 1 rfl
    have hz12 := hm12.len
    refine run_region_lit ?_
    refine o_rd (rd_move rfl) trivial rfl ?_
    refine o_ef trivial (ef_call (Tryd.call84) rfl rfl ?_)
    refine FnC.mono (oc_End (Sat.bring 3 h)) ?_
    rintro _ w ⟨rfl, h⟩
    refine o_tD (rd_eql rfl rfl) trivial rfl (fun c13 => ?_) (fun c13 => ?_)
    · refine o_rd (rd_move rfl) trivial rfl ?_
      refine o_rd (rd_move rfl) rfl rfl ?_
      refine o_lenM rfl (h.at_ 3 rfl) T43 rfl rfl ?_
      refine o_tD (rd_gtr rfl rfl) rfl rfl (fun c14 => ?_) (fun c14 => ?_)
      · refine o_rd (rd_pick_t rfl rfl) trivial rfl ?_
        refine o_rd (rd_move rfl) trivial rfl ?_
        refine o_rd (rd_move rfl) rfl rfl ?_
        refine o_rd (rd_nil rfl) rfl rfl ?_
        refine o_rd (rd_fieldA F91_0 S43 rfl) rfl rfl ?_
        refine o_ld rfl (h.at_ 1 rfl) T43 rfl rfl rfl rfl ?_
        refine o_lenM rfl (h.at_ 2 rfl) T43 rfl rfl ?_
        refine o_rd (rd_leq rfl rfl) rfl rfl ?_
        refine o_rd (rd_pick_t rfl rfl) trivial rfl ?_
        refine o_rd (rd_assign rfl) trivial rfl ?_
        refine runO_nil ?_
        replace h := h.mapClose 3 rfl hm11
        replace h := h.mapClose 2 rfl hm12
        refine run_ret Tryd.func47 (RV.tmp rfl RV.nil) ?_
        -- ret 5 path L0.c1f.c13t.c14t. L ['rd', 'b', 'm', 'mm', 'ml', 'B']
        obtain rfl : n = 0 := by omega
        have hr : recR I bs = some (met, bl, er) := hrec.symm
        have hE2 : Eqv K2 (layI I met) := ⟨fun k => by rw [hk1, layI_get met hE.2.2 hnd]; simp only [layG, hE.1], hk2, layI_nodup met hE.2.2⟩
        have hq := hE2.len
        rw [len_encI] at hz11 hz12
        have hv : recOk I bs = decide ((es12.size : Int) ≤ 64) := by
          simp only [recOk, hr, c13, decide_true, Bool.true_and, decide_eq_true (show 0 < met.length by omega)]
          exact decide_eq_decide.2 (by omega)
        rw [hv, show recI I bs = layI I met by simp only [recI, hr]]
        exact ⟨rfl, idsR_close hE2 (Sat.out 0 (Sat.out 3 h))⟩
      · refine o_rd (rd_pick_t rfl rfl) trivial rfl ?_
        refine o_rd (rd_move rfl) trivial rfl ?_
        refine o_pass rfl rfl rfl rfl ?_
        refine o_pass rfl rfl rfl rfl ?_
        refine o_pass rfl rfl rfl rfl ?_
        refine o_pass rfl rfl rfl rfl ?_
        refine o_pass rfl rfl rfl rfl ?_
        refine o_pass rfl rfl rfl rfl ?_
        refine o_rd (rd_pick_f rfl rfl) trivial rfl ?_
        refine o_rd (rd_assign rfl) trivial rfl ?_
        refine runO_nil ?_
        replace h := h.mapClose 3 rfl hm11
        replace h := h.mapClose 2 rfl hm12
        refine run_ret Tryd.func47 (RV.tmp rfl RV.nil) ?_
        -- ret 6 path L0.c1f.c13t.c14f. L ['rd', 'b', 'm', 'mm', 'ml', 'B']
        obtain rfl : n = 0 := by omega
        have hr : recR I bs = some (met, bl, er) := hrec.symm
        have hE2 : Eqv K2 (layI I met) := ⟨fun k => by rw [hk1, layI_get met hE.2.2 hnd]; simp only [layG, hE.1], hk2, layI_nodup met hE.2.2⟩
        have hq := hE2.len
        rw [len_encI] at hz11 hz12
        have hv : recOk I bs = false := by
          simp only [recOk, hr, decide_eq_false (show ¬0 < met.length by omega), Bool.false_and, Bool.and_false]
        rw [hv, show recI I bs = layI I met by simp only [recI, hr]]
        exact ⟨rfl, idsR_close hE2 (Sat.out 0 (Sat.out 3 h))⟩
    · refine o_rd (rd_move rfl) trivial rfl ?_
      refine o_pass rfl rfl rfl rfl ?_
      refine o_pass rfl rfl rfl rfl ?_
      refine o_pass rfl rfl rfl rfl ?_
      refine o_rd (rd_pick_f rfl rfl) trivial rfl ?_
      refine o_rd (rd_move rfl) trivial rfl ?_
      refine o_pass rfl rfl rfl rfl ?_
      refine o_pass rfl rfl rfl rfl ?_
      refine o_pass rfl rfl rfl rfl ?_
      refine o_pass rfl rfl rfl rfl ?_
      refine o_pass rfl rfl rfl rfl ?_
      refine o_pass rfl rfl rfl rfl ?_
      refine o_rd (rd_pick_f rfl rfl) trivial rfl ?_
      refine o_rd (rd_assign rfl) trivial rfl ?_
      refine runO_nil ?_
      replace h := h.mapClose 3 rfl hm11
      replace h := h.mapClose 2 rfl hm12
      refine run_ret Tryd.func47 (RV.tmp rfl RV.nil) ?_
      -- ret 7 path L0.c1f.c13f. L ['rd', 'b', 'm', 'mm', 'ml', 'B']
      obtain rfl : n = 0 := by omega
      have hr : recR I bs = some (met, bl, er) := hrec.symm
      have hE2 : Eqv K2 (layI I met) := ⟨fun k => by rw [hk1, layI_get met hE.2.2 hnd]; simp only [layG, hE.1], hk2, layI_nodup met hE.2.2⟩
      have hq := hE2.len
      rw [len_encI] at hz11 hz12
      have hv : recOk I bs = false := by
        simp only [recOk, hr, decide_eq_false c13, Bool.false_and]
      rw [hv, show recI I bs = layI I met by simp only [recI, hr]]
      exact ⟨rfl, idsR_close hE2 (Sat.out 0 (Sat.out 3 h))⟩

theorem rs_Open {O : World} {d : Nat} {D : DiskV} {w : World} {R : List Hp} (hok : ∀ f, kget D.files nmRefs = some f → f.length ≤ 4194304) (h : Sat w (diskR d D :: (mlR O) :: R)) :
    FnC Tryd.prog 16 [.pointer (some ⟨d, 0, none⟩)] w fun v w' => (((jparse ((kget D.files nmRefs).getD [])).2.2 = true ∧ v = .tuple #[.pointer none, .int .i64 8] ∧ Sat w' (diskR d D :: (mlR O) :: R)) ∨
       ((jparse ((kget D.files nmRefs).getD [])).2.2 = false ∧ (jtrunc D nmRefs).2 ≠ 0 ∧ v = .tuple #[.pointer none, .int .i64 (jtrunc D nmRefs).2] ∧ Sat w' (diskR d (jtrunc D nmRefs).1 :: (mlR O) :: R)) ∨
       ((jparse ((kget D.files nmRefs).getD [])).2.2 = false ∧ (jtrunc D nmRefs).2 = 0 ∧ openL [] (jparse ((kget D.files nmRefs).getD [])).1 = none ∧ v = .tuple #[.pointer none, .int .i64 8] ∧ Sat w' (diskR d (jtrunc D nmRefs).1 :: (mlR O) :: R)) ∨
       ((jparse ((kget D.files nmRefs).getD [])).2.2 = false ∧ (jtrunc D nmRefs).2 = 0 ∧ ∃ I b, openL [] (jparse ((kget D.files nmRefs).getD [])).1 = some I ∧ v = .tuple #[.pointer (some ⟨b, 0, none⟩), .int .i64 0] ∧ Sat w' (refsR b d I ⟨(jparse ((kget D.files nmRefs).getD [])).1, (jparse ((kget D.files nmRefs).getD [])).2.1, false⟩ :: diskR d (jtrunc D nmRefs).1 :: (mlR O) :: R))) := by
  have hfs : ((kget D.files nmRefs).getD []).length ≤ 4194304 := by
    cases e : kget D.files nmRefs with
    | none => simp
    | some f => exact hok f e
  have key := jr_Open (file := nmRefs) hok h
  have hjl := jparse_len _ _ (Nat.le_refl ((kget D.files nmRefs).getD []).length)
  obtain ⟨P, hP⟩ : ∃ P, P = (jparse ((kget D.files nmRefs).getD [])) := ⟨_, rfl⟩
  obtain ⟨T, hT⟩ : ∃ T, T = (jtrunc D nmRefs) := ⟨_, rfl⟩
  rw [← hP] at hjl
  rw [← hP, ← hT]
  refine fnC_of_run Tryd.func16 rfl Tryd.ntmps16 (Nat.le_of_ble_eq_true rfl) (fun cs => ?_)
  refine run_seq (run_region_lit ?_)
  refine o_ef trivial (ef_alloc S39 rfl h (fun p w h => ?_))
  replace h := Sat.conv (B := pt p (.cells #[.pointer none] 39)) 0 h rfl (fun _ x => x)
  refine o_ef trivial (ef_alloc S40 rfl h (fun q w h => ?_))
  replace h := Sat.conv (B := pt q (.cells #[.int .i64 0] 40)) 0 h rfl (fun _ x => x)
  refine runO_nil (run_seq (run_region_lit ?_))
  refine o_rd (rd_move rfl) trivial rfl ?_
  refine o_ef trivial (ef_call (Tryd.call45) rfl rfl ?_)
  refine FnC.mono (jr_Open (file := nmRefs) hok (Sat.bring 2 h)) ?_
  rintro v9 w (⟨hw, rfl, h⟩ | ⟨hw, hTn, rfl, h⟩ | ⟨hw, hT0, jb, rfl, h⟩)
  · rw [← hP] at hw
    refine o_rd (rd_move rfl) trivial rfl ?_
    refine o_rd (rd_extract rfl rfl) trivial rfl ?_
    refine o_rd (rd_extract rfl rfl) trivial rfl ?_
    refine o_rd (rd_assign rfl) trivial rfl ?_
    refine o_rd (rd_assign rfl) trivial rfl ?_
    refine runO_nil (run_seq (run_seq (run_region_lit ?_)))
    refine o_rd (rd_move rfl) trivial rfl ?_
    refine o_rd (rd_neq rfl rfl) trivial rfl ?_
    refine runO_nil (run_cond_true rfl (run_seq (run_region_lit ?_)))
    refine o_rd (rd_move rfl) trivial rfl ?_
    refine o_ef trivial (ef_store S39 2 rfl rfl h rfl rfl rfl (Nat.le_of_ble_eq_true rfl) rfl (fun w h => ?_))
    replace h := Sat.conv (B := pt p (.cells #[.pointer none] 39)) 2 h rfl (fun _ x => x)
    refine o_ef trivial (ef_store S40 1 rfl rfl h rfl rfl rfl (Nat.le_of_ble_eq_true rfl) rfl (fun w h => ?_))
    refine runO_nil ?_
    refine run_ret Tryd.func16 (RV.cell rfl (run_load1 T39 rfl (h.at_ 2 rfl) rfl) (RV.cell rfl (run_load1 T40 rfl (h.at_ 1 rfl) rfl) RV.nil)) ?_
    -- ret 0 path A0. L ['D', 'q', 'p', 'ml']
    exact .inl ⟨hw, rfl, (Sat.out 1 (Sat.out 2 h))⟩
  · rw [← hP] at hw
    rw [← hT] at hTn h ⊢
    refine o_rd (rd_move rfl) trivial rfl ?_
    refine o_rd (rd_extract rfl rfl) trivial rfl ?_
    refine o_rd (rd_extract rfl rfl) trivial rfl ?_
    refine o_rd (rd_assign rfl) trivial rfl ?_
    refine o_rd (rd_assign rfl) trivial rfl ?_
    refine runO_nil (run_seq (run_seq (run_region_lit ?_)))
    refine o_rd (rd_move rfl) trivial rfl ?_
    refine o_tN (rd_neq rfl rfl) trivial rfl (fun c1 => ?_) (fun c1 => ?_)
    · refine runO_nil (run_cond_true rfl (run_seq (run_region_lit ?_)))
      refine o_rd (rd_move rfl) trivial rfl ?_
      refine o_ef trivial (ef_store S39 2 rfl rfl h rfl rfl rfl (Nat.le_of_ble_eq_true rfl) rfl (fun w h => ?_))
      replace h := Sat.conv (B := pt p (.cells #[.pointer none] 39)) 2 h rfl (fun _ x => x)
      refine o_ef trivial (ef_store S40 1 rfl rfl h rfl rfl rfl (Nat.le_of_ble_eq_true rfl) rfl (fun w h => ?_))
      refine runO_nil ?_
      refine run_ret Tryd.func16 (RV.cell rfl (run_load1 T39 rfl (h.at_ 2 rfl) rfl) (RV.cell rfl (run_load1 T40 rfl (h.at_ 1 rfl) rfl) RV.nil)) ?_
      -- ret 1 path A1.c1t. L ['D', 'q', 'p', 'ml']
      exact .inr (.inl ⟨hw, hTn, rfl, (Sat.out 1 (Sat.out 2 h))⟩)
    · exact absurd c1 hTn
  · rw [← hP] at hw h
    rw [← hT] at hT0 h
    refine o_rd (rd_move rfl) trivial rfl ?_
    refine o_rd (rd_extract rfl rfl) trivial rfl ?_
    refine o_rd (rd_extract rfl rfl) trivial rfl ?_
    refine o_rd (rd_assign rfl) trivial rfl ?_
    refine o_rd (rd_assign rfl) trivial rfl ?_
    refine runO_nil (run_seq (run_seq (run_region_lit ?_)))
    refine o_rd (rd_move rfl) trivial rfl ?_
    refine o_rd (rd_neq rfl rfl) trivial rfl ?_
    refine runO_nil (run_cond_false rfl (run_skip (run_seq (run_region_lit ?_))))
    refine o_ef trivial (ef_makeMap rfl h (fun m w h => ?_))
    refine o_rd (rd_move rfl) trivial rfl ?_
    refine o_rd (Reads.to (v' := .agg #[.map (some m), .pointer (some ⟨jb, 0, none⟩)]) (rd_build B91 rfl rfl) rfl) trivial rfl ?_
    refine o_ef trivial (ef_box rfl rfl h (fun b w h => ?_))
    replace h := Sat.conv (B := pt b (.cells #[.map (some m), .pointer (some ⟨jb, 0, none⟩)] 91)) 0 h rfl (fun _ x => x)
    refine o_ef trivial (ef_alloc S39 rfl h (fun r6 w h => ?_))
    refine o_ef trivial (ef_store S39 0 rfl rfl h rfl rfl rfl (Nat.le_of_ble_eq_true rfl) rfl (fun w h => ?_))
    replace h := Sat.conv (B := pt r6 (.cells #[.pointer (some ⟨b, 0, none⟩)] 39)) 0 h rfl (fun _ x => x)
    refine runO_nil ?_
    replace h := Sat.conv (B := mapR strK m (encI [])) 2 h rfl (mapR_empty strK m)
    replace h := idsX_close (P := fun I => openL [] (P.1.take 0) = some I) rfl (idsR_close (I := []) (K := []) (Eqv.refl (by simp [keys])) (Sat.bring 7 (Sat.bring 7 (Sat.bring 5 (Sat.bring 7 (Sat.bring 7 (Sat.bring 5 (Sat.bring 5 (Sat.bring 7 h)))))))))
    refine run_seq (run_seq (run_region_lit ?_))
    refine o_rd (rd_move rfl) trivial rfl ?_
    refine o_ef trivial (ef_call (Tryd.call46) rfl rfl ?_)
    refine FnC.mono (jr_Each (v0 := .pointer (some ⟨jb, 0, none⟩)) rfl h) ?_
    rintro _ w ⟨ex, rfl, h⟩
    refine runO_nil (run_block ?_)
    refine run_rangeFunc (cap := [.pointer (some ⟨ex, 0, none⟩)]) rfl Tryd.call80 h (fun rb lp r w hr h => ?_)
    refine FnC.mono (jr_iter (J := (⟨P.1, P.2.1, false⟩ : JrnV)) (b := jb) (Rg := fun i => [idsX b (.pointer (some ⟨jb, 0, none⟩)) (fun I => openL [] (P.1.take i) = some I), pt r6 (.cells #[.pointer (some ⟨b, 0, none⟩)] 39), (mlR O), pt lp (.loop r), pt rb (.deferred (some [])), pt q (.cells #[.int .i64 0] 40), pt p (.cells #[.pointer none] 39), diskR d T.1] ++ R) (Rz := [pureR (openL [] P.1 = none), (mlR O), pt lp (.loop { r with state := .done, pending := some .ret }), pt rb (.deferred (some [])), pt q (.cells #[.int .i64 8] 40), pt p (.cells #[.pointer none] 39), diskR d T.1] ++ R) (by simp only []; omega) (by simp only []; omega) (fun i r9 a c X w hi hc hcm h => ?_) (Sat.bring 9 (Sat.bring 9 (Sat.bring 8 (Sat.bring 8 (Sat.bring 9 (Sat.bring 4 (Sat.bring 4 (Sat.bring 7 (Sat.bring 7 (Sat.bring 8 h))))))))))) ?_
    · refine callV_round hr (h.at_ 5 rfl) rfl rfl (fun F cf cs hk => ?_)
      refine run_region_lit ?_
      refine o_rd (rd_assign rfl) trivial rfl ?_
      refine runO_nil ?_
      refine run_begin 5 h rfl hr.state (fun w h => ?_)
      refine run_block (run_seq ?_)
      obtain ⟨I, hI, h⟩ := idsX_open (Sat.bring 9 (Sat.bring 8 (Sat.bring 8 (Sat.bring 9 (Sat.bring 9 (Sat.bring 9 (Sat.bring 9 (Sat.bring 9 (Sat.bring 9 (Sat.bring 9 h))))))))))
      refine run_region_lit ?_
      refine o_ld rfl (h.at_ 3 rfl) T39 rfl rfl trivial rfl ?_
      refine o_rd (rd_move rfl) trivial rfl ?_
      refine o_ef trivial (ef_call (Tryd.call47) rfl rfl ?_)
      refine FnC.mono (rs_record (fun g x => own_rowR g x) (by have h9 : r9.length ≤ P.1.flatten.length := Nat.le_trans (Nat.le_add_left _ _) (flat_at P.1 _ _ hi).1; omega) (Sat.bring 2 (Sat.bring 4 (Sat.bring 1 h)))) ?_
      rintro _ w ⟨rfl, h⟩
      refine o_know (b := _) 27 rfl (fun c2 => ?_) (fun c2 => ?_)
      · refine o_rd (rd_not rfl) trivial rfl ?_
        refine runO_nil (run_cond_false rfl (run_skip (run_inBlock ?_)))
        refine run_roundEnd 5 h rfl hk (fun w h => ?_)
        rw [hr.again] at h
        -- round end A2.F0.c2t. L ['ids', 'ml', 'pl', 'X', 'r6', 'lp', 'rb', 'q', 'p', 'D']
        exact .inl ⟨rfl, Sat.swap (idsX_close (P := fun I => openL [] (P.1.take (i + 1)) = some I) (openL_step hI hi c2) (Sat.bring 8 (Sat.bring 8 (Sat.bring 8 (Sat.bring 6 (Sat.bring 8 (Sat.bring 8 (Sat.bring 8 (Sat.bring 8 (Sat.bring 8 (Sat.out 2 h)))))))))))⟩
      · refine o_rd (rd_not rfl) trivial rfl ?_
        refine runO_nil (run_cond_true rfl (run_seq (run_region_lit ?_)))
        refine o_ef trivial (ef_store S39 8 rfl rfl h rfl rfl rfl (Nat.le_of_ble_eq_true rfl) rfl (fun w h => ?_))
        replace h := Sat.conv (B := pt p (.cells #[.pointer none] 39)) 8 h rfl (fun _ x => x)
        refine o_ef trivial (ef_store S40 7 rfl rfl h rfl rfl rfl (Nat.le_of_ble_eq_true rfl) rfl (fun w h => ?_))
        replace h := Sat.conv (B := pt q (.cells #[.int .i64 8] 40)) 7 h rfl (fun _ x => x)
        refine runO_nil ?_
        refine run_roundRet 5 h rfl hk (fun w h => ?_)
        -- round ret A2.F0.c2f. L ['ids', 'ml', 'pl', 'X', 'r6', 'lp', 'rb', 'q', 'p', 'D']
        exact .inr ⟨rfl, Sat.swap (Sat.lone (A := pureR (openL [] P.1 = none)) (fun _ => openL_stop hI hi c2) (Sat.bring 6 (Sat.bring 5 (Sat.bring 6 (Sat.bring 6 (Sat.bring 6 (Sat.bring 6 (Sat.bring 6 (Sat.out 0 (Sat.out 2 (Sat.out 4 h)))))))))))⟩
    · rintro _ w (h | h)
      · refine ⟨r, _, (by rw [hr.state]; intro e; cases e), (Sat.bring 9 (Sat.bring 8 (Sat.bring 8 (Sat.bring 8 (Sat.bring 9 (Sat.bring 9 (Sat.bring 9 (Sat.bring 9 (Sat.bring 1 (Sat.bring 1 h)))))))))), fun w h => ?_⟩
        rw [hr.pending]
        refine run_inBlock (run_seq ?_)
        obtain ⟨I, hI, h⟩ := idsX_open (Sat.bring 9 (Sat.bring 8 (Sat.bring 9 (Sat.bring 9 (Sat.bring 9 (Sat.bring 9 (Sat.bring 9 (Sat.bring 9 (Sat.bring 9 (Sat.bring 9 h))))))))))
        refine run_region_lit ?_
        refine o_ld rfl (h.at_ 2 rfl) T39 rfl rfl trivial rfl ?_
        refine o_ef trivial (ef_store S39 6 rfl rfl h rfl rfl rfl (Nat.le_of_ble_eq_true rfl) rfl (fun w h => ?_))
        replace h := Sat.conv (B := pt p (.cells #[.pointer (some ⟨b, 0, none⟩)] 39)) 6 h rfl (fun _ x => x)
        refine o_ef trivial (ef_store S40 5 rfl rfl h rfl rfl rfl (Nat.le_of_ble_eq_true rfl) rfl (fun w h => ?_))
        replace h := Sat.conv (B := pt q (.cells #[.int .i64 0] 40)) 5 h rfl (fun _ x => x)
        refine runO_nil ?_
        refine run_ret1 Tryd.func16 4 h rfl (fun w h => ⟨(RV.cell rfl (run_load1 T39 rfl (h.at_ 6 rfl) rfl) (RV.cell rfl (run_load1 T40 rfl (h.at_ 5 rfl) rfl) RV.nil)), ?_⟩)
        -- ret 2 path A2.G0_0. L ['ids', 'lp', 'r6', 'ml', 'rb', 'q', 'p', 'D', 'ex', 'J']
        have hI2 : openL [] P.1 = some I := by rw [← hI]; exact congrArg (openL []) (List.take_length).symm
        exact .inr (.inr (.inr ⟨hw, hT0, I, b, hI2, rfl, refsR_close (Sat.bring 3 (Sat.bring 3 (Sat.bring 2 (Sat.bring 1 (Sat.out 1 (Sat.out 2 (Sat.out 4 (Sat.out 5 (Sat.out 6 (Sat.out 8 h))))))))))⟩))
      · have hpu := sat_pureR (Sat.out 0 (Sat.out 1 (Sat.out 4 (Sat.out 5 (Sat.out 6 (Sat.out 7 (Sat.out 8 h)))))))
        refine ⟨_, _, (by intro e; cases e), (Sat.bring 7 (Sat.bring 6 (Sat.bring 7 (Sat.bring 7 (Sat.bring 7 (Sat.bring 7 (Sat.bring 1 (Sat.bring 1 (Sat.out 2 h))))))))), fun w h => ?_⟩
        refine run_ret1 Tryd.func16 2 h rfl (fun w h => ⟨(RV.cell rfl (run_load1 T39 rfl (h.at_ 4 rfl) rfl) (RV.cell rfl (run_load1 T40 rfl (h.at_ 3 rfl) rfl) RV.nil)), ?_⟩)
        -- ret 3 path A2.G0_1. L ['lp', 'ml', 'rb', 'q', 'p', 'D', 'ex', 'J']
        exact .inr (.inr (.inl ⟨hw, hT0, hpu, rfl, (Sat.bring 1 (Sat.out 0 (Sat.out 2 (Sat.out 3 (Sat.out 4 (Sat.out 6 (Sat.out 7 h)))))))⟩))

theorem rs_Set {O : World} {b d : Nat} {I : Ids} {J : JrnV} {D : DiskV} {B : Hp} {a : Option Addr} {c : Nat} {l : Ids} {w : World} {R : List Hp} (hB : ∀ g, B g → RowH g a (rcells l)) (hlc : l.length ≤ 1000) (hlc2 : l.length ≤ c) (hnm : ∀ x, x ∈ l → x.1.size ≤ 1000 ∧ x.2 < 18446744073709551616) (hI : I.length ≤ 1000000) (hp : J.recs.flatten.length ≤ 50000000) (hr : J.recs.length ≤ 50000000) (hs : J.size ≤ 50000000) (h : Sat w (refsR b d I J :: diskR d D :: (mlR O) :: B :: R)) :
    FnC Tryd.prog 18 [.pointer (some ⟨b, 0, none⟩), .slice a l.length c] w fun v w' => v = .int .i64 (RefV.set (⟨I, J, D⟩ : RefV) l).2 ∧ Sat w' (refsR b d (RefV.set (⟨I, J, D⟩ : RefV) l).1.ids (RefV.set (⟨I, J, D⟩ : RefV) l).1.jrn :: diskR d (RefV.set (⟨I, J, D⟩ : RefV) l).1.disk :: (mlR O) :: B :: R) := by
  obtain ⟨jb, h⟩ := refsR_open h
  refine fnC_of_run Tryd.func18 rfl Tryd.ntmps18 (Nat.le_of_ble_eq_true rfl) (fun cs => ?_)
  refine run_seq (run_region_lit ?_)
  refine o_rd (rd_assign rfl) trivial rfl ?_
  refine runO_nil (run_seq (run_seq (run_region_lit ?_)))
  refine o_rd (rd_move rfl) trivial rfl ?_
  refine o_rd (rd_eqlP0 T39 rfl rfl) trivial rfl ?_
  refine runO_nil (run_cond_false rfl (run_skip (run_seq (run_region_lit ?_))))
  refine o_ef trivial (ef_makeMap rfl h (fun mt w h => ?_))
  refine o_rd (rd_assign rfl) trivial rfl ?_
  refine runO_nil (run_seq (run_region_lit ?_))
  refine o_ef trivial (ef_makeMap rfl h (fun mc w h => ?_))
  refine o_rd (rd_assign rfl) trivial rfl ?_
  refine runO_nil ?_
  replace h := Sat.conv (B := mapR strK mc (encI [])) 0 h rfl (mapR_empty strK mc)
  replace h := Sat.conv (B := mapR strK mt (encB [])) 1 h rfl (mapR_empty strK mt)
  obtain ⟨m, K, hE, h⟩ := idsR_open (Sat.bring 6 (Sat.bring 5 (Sat.bring 5 (Sat.bring 6 (Sat.bring 6 (Sat.bring 6 (Sat.bring 6 h)))))))
  refine run_seq ?_
  obtain ⟨es1, ck1, hm1, h⟩ := h.mapOpen 1 rfl
  have hz1 := hm1.len
  refine run_region_lit ?_
  refine o_rd (rd_move rfl) trivial rfl ?_
  refine o_rd (rd_nil rfl) trivial rfl ?_
  refine o_rd (rd_fieldA F91_0 S43 rfl) trivial rfl ?_
  refine o_ld rfl (h.at_ 0 rfl) T43 rfl rfl trivial rfl ?_
  refine o_lenM rfl (h.at_ 1 rfl) T43 trivial rfl ?_
  refine o_rd (rd_assign rfl) trivial rfl ?_
  refine runO_nil ?_
  replace h := h.mapClose 1 rfl hm1
  have hq := hE.len
  rw [len_encI] at hz1
  have e9 : (es1.size : Int) = (I.length : Int) := by omega
  rw [e9]
  refine run_seq (run_region_lit ?_)
  refine o_rd (rd_assign rfl) trivial rfl ?_
  refine runO_nil ?_
  replace h := idsR_close hE h
  replace h := Sat.lone (A := OwnS 5 1 (.slice none 0 0) (bcells [])) (own_none none) h
  refine run_seq (run_seq (run_region_lit ?_))
  refine o_rd (rd_move rfl) trivial rfl ?_
  refine o_rd (rd_len (u := 0) T38 rfl) trivial rfl ?_
  refine o_rd (rd_move rfl) trivial rfl ?_
  refine runO_nil (run_block ?_)
  refine run_loop (σ := Nat × List ByteArray × Ids × Int × List UInt8 × Value) (fun (i, met, ch, sz, bs, s) => [(0, .pointer (some ⟨b, 0, none⟩)), (5, .map (some mt)), (6, .map (some mc)), (7, .int .i64 sz), (8, s), (24, .slice a l.length c), (25, .int .i64 l.length), (26, .int .i64 (i : Nat))]) (fun (i, met, ch, sz, bs, s) w => Sat w (idsR b (.pointer (some ⟨jb, 0, none⟩)) I :: mapR strK mt (encB met) :: mapR strK mc (encI ch) :: OwnS 5 1 s (bcells bs) :: (mlR O) :: B :: jrnR jb d nmRefs J :: diskR d D :: R) ∧ i ≤ l.length ∧ setL I (l.drop i) met ch sz bs = (setL I l [] [] (I.length : Int) []) ∧ (I.length : Int) - i ≤ sz ∧ sz ≤ I.length + i ∧ (keys ch).Nodup ∧ ch.length ≤ i ∧ bs.length ≤ i * 1020) (fun (i, met, ch, sz, bs, s) => l.length - i) (0, [], [], (I.length : Int), [], .slice none 0 0) ?_ (sub_cons rfl (sub_cons rfl (sub_cons rfl (sub_cons rfl (sub_cons rfl (sub_cons rfl (sub_cons rfl (sub_cons rfl (sub_nil _))))))))) ?_
  · exact ⟨(Sat.bring 7 (Sat.bring 7 (Sat.bring 6 (Sat.bring 4 (Sat.bring 7 (Sat.bring 7 (Sat.bring 5 (Sat.bring 5 h)))))))), Nat.zero_le _, rfl, by omega, by omega, by simp [keys], by simp, by simp⟩
  clear h
  rintro ⟨i, met, ch, sz, bs, s⟩ w ⟨h, hi, hset, hz1, hz2, hcn, hcl, hbl⟩ ih
  obtain ⟨a6, n6, c6, rfl, hl6, hc6, hm6, _⟩ := Sat.ownRow 3 h rfl
  rw [bcells_len] at hl6
  obtain rfl : n6 = bs.length := by omega
  refine run_seq (run_region_lit ?_)
  refine o_tD (rd_lss rfl rfl) trivial rfl (fun c2 => ?_) (fun c2 => ?_)
  · refine runO_nil (run_seq (run_cond_true rfl (run_skip (run_seq (run_block (run_seq ?_))))))
    obtain ⟨q, hq⟩ : ∃ q, l[i]? = some q := ⟨_, List.getElem?_eq_getElem (by omega)⟩
    have hqv := hnm q (List.mem_of_getElem? hq)
    obtain ⟨hq1, hq2⟩ := rcells_at hq
    have hrow := h.rowOf 5 rfl hB
    obtain ⟨bb, oo, C, E, fr, rfl, hb, hcell⟩ := RowW.get hrow hq1
    refine run_region_lit ?_
    refine o_rd (Reads.to (v' := .pointer (some ⟨bb, oo + i * 2, none⟩)) (rd_idx T38 S48 rfl rfl (by omega) (by omega)) (by simp)) trivial rfl ?_
    refine o_ldG rfl hb G48 (cutL_two (hcell _ _ hq1) (hcell _ _ hq2)) trivial rfl ?_
    refine o_ef trivial (ef_alloc S48 rfl h (fun cb w h => ?_))
    refine o_ef trivial (ef_store S48 0 rfl rfl h rfl rfl rfl (Nat.le_of_ble_eq_true rfl) rfl (fun w h => ?_))
    replace h := Sat.conv (B := pt cb (.cells #[.string q.1, .int .u64 (q.2 : Int)] 48)) 0 h rfl (fun _ x => x)
    refine runO_nil (run_seq ?_)
    obtain ⟨m, K, hE, h⟩ := idsR_open (Sat.bring 8 (Sat.bring 7 (Sat.bring 8 (Sat.bring 8 (Sat.bring 8 (Sat.bring 8 (Sat.bring 8 (Sat.bring 8 (Sat.bring 8 h)))))))))
    obtain ⟨es3, ck3, hm3, h⟩ := h.mapOpen 1 rfl
    have hz3 := hm3.len
    refine run_drawS 11 1 [(0, true), (1, true), (2, true), (3, true), (4, true), (5, true), (6, true), (7, true), (8, true), (9, true), (10, false), (11, false)] [(_, true), (_, true), (_, true), (_, true), (_, true), (_, true), (_, true), (_, true), (_, true), (_, true), (_, false), (_, false)] h (Holds.cons (h.at_ 0 rfl) (Holds.cons (h.at_ 2 rfl) (Holds.cons (h.at_ 1 rfl) (Holds.nil _)))) mixed (by kernel_rfl) rfl ?_
    intro w h hK
    refine d_rd (rd_move rfl) hK trivial rfl ?_
    refine d_rd (rd_nil rfl) hK trivial rfl ?_
    refine d_rd (rd_fieldA F91_0 S43 rfl) hK trivial rfl ?_
    refine d_ld rfl 0 rfl T43 rfl rfl hK trivial rfl ?_
    refine d_rd (rd_fieldA F48_0 S9 rfl) hK trivial rfl ?_
    refine d_ld rfl 1 rfl T9 rfl rfl hK trivial rfl ?_
    refine d_look2 hm3 K9 Tryd.underlying43 S46 rfl 2 rfl rfl hK trivial rfl ?_
    refine d_rd (rd_move rfl) hK trivial rfl ?_
    refine d_rd (Reads.to (v' := .int .u64 (((kget I q.1).getD 0 : Nat) : Int)) (rd_extract rfl rfl) (look_id hE _)) hK trivial rfl ?_
    refine d_test (rd_extract rfl rfl) hK trivial rfl (fun c4 => ?_) (fun c4 => ?_)
    · refine d_rd0 (rd_assign rfl) hK trivial rfl ?_
      refine d_rd0 (rd_assign rfl) hK trivial rfl ?_
      refine d_nil ?_
      replace h := h.mapClose 1 rfl hm3
      rw [look_is hE] at c4
      replace h := idsR_close hE h
      refine run_seq (run_seq (run_region_lit ?_))
      refine o_rd (rd_fieldA F48_0 S9 rfl) trivial rfl ?_
      refine o_ld rfl (h.at_ 1 rfl) T9 rfl rfl trivial rfl ?_
      refine o_ef trivial (ef_call (Tryd.call48) rfl rfl ?_)
      refine FnC.mono (rs_may (Sat.bring 5 h)) ?_
      rintro _ w ⟨rfl, h⟩
      refine o_rd (rd_assign rfl) trivial rfl ?_
      refine runO_nil (run_block (run_seq (run_region_lit ?_)))
      refine o_rd (rd_move rfl) trivial rfl ?_
      refine o_tN (rd_neq rfl rfl) trivial rfl (fun c5 => ?_) (fun c5 => ?_)
      · refine o_rd (rd_assign rfl) trivial rfl ?_
        refine runO_nil (run_cond_true rfl (run_seq (run_region_lit ?_)))
        refine o_rd (rd_move rfl) trivial rfl ?_
        refine o_rd (rd_assign rfl) trivial rfl ?_
        refine runO_nil ?_
        refine run_ret Tryd.func18 (RV.tmp rfl RV.nil) ?_
        -- ret 0 path L0.c2t.c4t.c5t. L ['ml', 'ids', 'cb', 'mt', 'mc', 'o', 'B', 'J', 'D']
        have hv := hset.symm.trans (setL_may hq c5)
        rw [set_err (V := (⟨I, J, D⟩ : RefV)) hv c5]
        exact ⟨rfl, refsR_close (Sat.bring 4 (Sat.bring 4 (Sat.bring 4 (Sat.bring 1 (Sat.bring 2 (Sat.out 2 (Sat.out 3 (Sat.out 4 (Sat.out 5 h)))))))))⟩
      · refine o_rd (rd_assign rfl) trivial rfl ?_
        refine runO_nil (run_cond_false rfl (run_seq ?_))
        obtain ⟨es6, ck6, hm6, h⟩ := h.mapOpen 3 rfl
        have hz6 := hm6.len
        refine run_region_lit ?_
        refine o_rd (rd_move rfl) trivial rfl ?_
        refine o_rd (rd_fieldA F48_0 S9 rfl) trivial rfl ?_
        refine o_ld rfl (h.at_ 2 rfl) T9 rfl rfl trivial rfl ?_
        refine o_look1 hm6 K9 Tryd.underlying96 S4 rfl (h.at_ 3 rfl) rfl trivial rfl ?_
        rw [look_b]
        refine o_rd (rd_assign rfl) trivial rfl ?_
        refine runO_nil ?_
        replace h := h.mapClose 3 rfl hm6
        refine run_cond rfl (fun c7 => ?_) (fun c7 => ?_)
        · refine run_seq (run_region_lit ?_)
          refine o_rd (rd_assign rfl) trivial rfl ?_
          refine runO_nil ?_
          refine run_ret Tryd.func18 (RV.tmp rfl RV.nil) ?_
          -- ret 1 path L0.c2t.c4t.c5f.c7t. L ['ml', 'ids', 'cb', 'mt', 'mc', 'o', 'B', 'J', 'D']
          have hv := hset.symm.trans (setL_twice hq c5 c7)
          rw [set_err (V := (⟨I, J, D⟩ : RefV)) hv (by decide)]
          exact ⟨rfl, refsR_close (Sat.bring 4 (Sat.bring 4 (Sat.bring 4 (Sat.bring 1 (Sat.bring 2 (Sat.out 2 (Sat.out 3 (Sat.out 4 (Sat.out 5 h)))))))))⟩
        · have hk7 := c7
          refine run_seq (run_region_lit ?_)
          refine o_rd (rd_fieldA F48_1 S46 rfl) trivial rfl ?_
          refine o_ld rfl (h.at_ 2 rfl) T46 rfl rfl trivial rfl ?_
          refine o_tD (rd_eql rfl rfl) trivial rfl (fun c8 => ?_) (fun c8 => ?_)
          · refine o_rd (rd_move rfl) trivial rfl ?_
            refine o_rd (rd_move rfl) rfl rfl ?_
            refine o_rd (rd_not rfl) rfl rfl ?_
            refine o_rd (rd_pick_t rfl rfl) trivial rfl ?_
            refine o_rd (rd_assign rfl) trivial rfl ?_
            refine runO_nil (run_cond_false rfl (run_skip (run_inBlock (run_seq (run_region_lit ?_)))))
            refine o_rd (rd_move rfl) trivial rfl ?_
            refine o_rd (rd_fieldA F48_0 S9 rfl) trivial rfl ?_
            refine o_ld rfl (h.at_ 2 rfl) T9 rfl rfl trivial rfl ?_
            refine o_ef trivial (ef_mapUpdate Tryd.underlying96 K9 3 rfl rfl rfl h rfl (fun w h => ?_))
            refine runO_nil ?_
            replace h := Sat.conv (B := mapR strK mt (encB (met ++ [q.1]))) 3 h rfl (fun _ x => by rw [← kset_encB _ _ (by rw [hk7]; decide)]; exact x)
            refine run_seq (run_seq (run_region_lit ?_))
            refine o_rd (rd_move rfl) trivial rfl ?_
            refine o_rd (rd_fieldA F48_1 S46 rfl) trivial rfl ?_
            refine o_ld rfl (h.at_ 2 rfl) T46 rfl rfl trivial rfl ?_
            refine o_tD (rd_eql rfl rfl) trivial rfl (fun c9 => ?_) (fun c9 => ?_)
            · refine runO_nil (run_cond_true rfl (run_exit rfl (run_region_lit ?_)))
              refine o_rd (rd_addi rfl rfl (by constructor <;> omega)) trivial rfl ?_
              refine o_rd (rd_move rfl) trivial rfl ?_
              refine runO_nil ?_
              -- round of loop 0 path L0.c2t.c4t.c5f.c7f.c8t.c9t. L ['ml', 'ids', 'cb', 'mt', 'mc', 'o', 'B', 'J', 'D']
              exact run_fewer (sub_cons rfl (sub_cons rfl (sub_cons rfl (sub_cons rfl (sub_cons rfl (sub_cons rfl (sub_cons rfl (sub_cons rfl (sub_nil _))))))))) (ih (i + 1, met ++ [q.1], ch, sz, bs, _) w ⟨(Sat.bring 7 (Sat.bring 7 (Sat.bring 7 (Sat.bring 7 (Sat.bring 3 (Sat.bring 7 (Sat.bring 7 (Sat.bring 7 (Sat.out 2 h))))))))), by omega, by rw [← hset]; exact (setL_same hq c5 c7 (fun x => by rw [x.2] at c4; cases c4) (by omega)).symm, by omega, by omega, hcn, by omega, by omega⟩ (by simp only []; omega))
            · refine runO_nil (run_cond_false rfl (run_skip (run_seq (run_region_lit ?_))))
              refine o_rd (rd_move rfl) trivial rfl ?_
              refine o_rd (rd_fieldA F48_0 S9 rfl) trivial rfl ?_
              refine o_ld rfl (h.at_ 2 rfl) T9 rfl rfl trivial rfl ?_
              refine o_rd (rd_fieldA F48_1 S46 rfl) trivial rfl ?_
              refine o_ld rfl (h.at_ 2 rfl) T46 rfl rfl trivial rfl ?_
              refine o_ef trivial (ef_mapUpdate Tryd.underlying43 K9 4 rfl rfl rfl h rfl (fun w h => ?_))
              refine runO_nil ?_
              replace h := Sat.conv (B := mapR strK mc (encI (kset ch q.1 q.2))) 4 h rfl (fun _ x => by rw [← kset_encI]; exact x)
              refine run_seq ?_
              refine run_drawS 7 1 [(0, true), (1, true), (2, true), (4, true), (5, true), (3, false), (6, false), (7, false)] [(_, true), (_, true), (_, true), (_, true), (_, true), (_, false), (_, false), (_, false)] h (Holds.cons (h.at_ 2 rfl) (Holds.nil _)) mixed (by kernel_rfl) rfl ?_
              intro w h hK
              refine d_rd (rd_move rfl) hK trivial rfl ?_
              refine d_rd (rd_fieldA F48_0 S9 rfl) hK trivial rfl ?_
              refine d_ld rfl 0 rfl T9 rfl rfl hK trivial rfl ?_
              refine d_rd (rd_fieldA F48_1 S46 rfl) hK trivial rfl ?_
              refine d_ld rfl 0 rfl T46 rfl rfl hK trivial rfl ?_
              refine d_ef trivial (ef_call (Tryd.call50) rfl rfl ?_)
              refine FnC.mono (oc_PutText (fun g x => own_rowR g x) (by omega) (by omega) (Sat.bring 5 h)) ?_
              rintro _ w ⟨ax, nx, cx, rfl, h⟩
              obtain ⟨hnx, hcx, hmx⟩ := own_len 0 h rfl
              subst hnx
              refine ⟨fun _ => (Holds.cons (h.at_ 4 rfl) (Holds.nil _)), ?_⟩
              replace hK := (Holds.cons (h.at_ 4 rfl) (Holds.nil _))
              refine d_ef trivial (ef_call (Tryd.call49) rfl rfl ?_)
              refine FnC.mono (oc_PutWord (fun g x => own_rowR g x) (by simp only [List.length_append, putT]; have := putU_len10 (x := q.1.size) (by omega); have e9 : q.1.data.toList.length = q.1.size := rfl; omega) hqv.2 h) ?_
              rintro _ w ⟨aw, nw, cw, rfl, h⟩
              refine ⟨fun _ => (Holds.cons (h.at_ 5 rfl) (Holds.nil _)), ?_⟩
              replace hK := (Holds.cons (h.at_ 5 rfl) (Holds.nil _))
              refine d_rd0 (rd_assign rfl) hK trivial rfl ?_
              refine d_nil ?_
              refine run_block (run_seq (run_region_lit ?_))
              refine o_rd (rd_fieldA F48_1 S46 rfl) trivial rfl ?_
              refine o_ld rfl (h.at_ 5 rfl) T46 rfl rfl trivial rfl ?_
              refine o_tD (rd_eql rfl rfl) trivial rfl (fun c10 => ?_) (fun c10 => ?_)
              · refine o_rd (rd_assign rfl) trivial rfl ?_
                refine runO_nil (run_cond_true rfl (run_region_lit ?_))
                refine o_rd (rd_move rfl) trivial rfl ?_
                refine o_rd (rd_subi rfl rfl (by constructor <;> omega)) trivial rfl ?_
                refine o_rd (rd_assign rfl) trivial rfl ?_
                refine runO_nil (run_inBlock (run_inBlock (run_region_lit ?_)))
                refine o_rd (rd_addi rfl rfl (by constructor <;> omega)) trivial rfl ?_
                refine o_rd (rd_move rfl) trivial rfl ?_
                refine runO_nil ?_
                -- round of loop 0 path L0.c2t.c4t.c5f.c7f.c8t.c9f.c10t. L ['o3', 'o2', 'o', 'ml', 'ids', 'cb', 'mt', 'mc', 'B', 'J', 'D']
                have hks := ksetL_len ch q.1 q.2
                have hpt : (putT q.1).length ≤ q.1.size + 11 := by
                  have := putU_len10 (x := q.1.size) (by omega)
                  simp only [putT, List.length_append]
                  have e9 : q.1.data.toList.length = q.1.size := rfl
                  omega
                exact run_fewer (sub_cons rfl (sub_cons rfl (sub_cons rfl (sub_cons rfl (sub_cons rfl (sub_cons rfl (sub_cons rfl (sub_cons rfl (sub_nil _))))))))) (ih (i + 1, met ++ [q.1], kset ch q.1 q.2, sz - 1, bs ++ putT q.1 ++ putW q.2, _) w ⟨(Sat.bring 7 (Sat.bring 7 (Sat.bring 7 (Sat.bring 4 (Sat.bring 4 (Sat.bring 7 (Sat.bring 7 (Sat.bring 7 (Sat.out 1 (Sat.out 2 (Sat.out 5 h))))))))))), by omega, by rw [← hset]; exact (setL_go hq c5 c7 (fun x => by rw [x.2] at c4; cases c4) (by omega) (if_pos (by omega))).symm, by omega, by omega, Slx.nodup_kset hcn _ _, by omega, by simp only [List.length_append, putW_len]; omega⟩ (by simp only []; omega))
              · refine o_rd (rd_assign rfl) trivial rfl ?_
                refine runO_nil (run_cond_false rfl (run_seq (run_region_lit ?_)))
                refine o_rd (rd_move rfl) trivial rfl ?_
                refine o_rd (rd_not rfl) trivial rfl ?_
                refine o_rd (rd_assign rfl) trivial rfl ?_
                refine runO_nil (run_cond_false rfl (run_skip (run_inBlock (run_inBlock (run_region_lit ?_)))))
                refine o_rd (rd_addi rfl rfl (by constructor <;> omega)) trivial rfl ?_
                refine o_rd (rd_move rfl) trivial rfl ?_
                refine runO_nil ?_
                -- round of loop 0 path L0.c2t.c4t.c5f.c7f.c8t.c9f.c10f. L ['o3', 'o2', 'o', 'ml', 'ids', 'cb', 'mt', 'mc', 'B', 'J', 'D']
                have hks := ksetL_len ch q.1 q.2
                have hpt : (putT q.1).length ≤ q.1.size + 11 := by
                  have := putU_len10 (x := q.1.size) (by omega)
                  simp only [putT, List.length_append]
                  have e9 : q.1.data.toList.length = q.1.size := rfl
                  omega
                exact run_fewer (sub_cons rfl (sub_cons rfl (sub_cons rfl (sub_cons rfl (sub_cons rfl (sub_cons rfl (sub_cons rfl (sub_cons rfl (sub_nil _))))))))) (ih (i + 1, met ++ [q.1], kset ch q.1 q.2, sz, bs ++ putT q.1 ++ putW q.2, _) w ⟨(Sat.bring 7 (Sat.bring 7 (Sat.bring 7 (Sat.bring 4 (Sat.bring 4 (Sat.bring 7 (Sat.bring 7 (Sat.bring 7 (Sat.out 1 (Sat.out 2 (Sat.out 5 h))))))))))), by omega, by rw [← hset]; exact (setL_go hq c5 c7 (fun x => by rw [x.2] at c4; cases c4) (by omega) (by rw [if_neg (by omega), if_pos c4])).symm, by omega, by omega, Slx.nodup_kset hcn _ _, by omega, by simp only [List.length_append, putW_len]; omega⟩ (by simp only []; omega))
          · refine o_rd (rd_move rfl) trivial rfl ?_
            refine o_pass rfl rfl rfl rfl ?_
            refine o_pass rfl rfl rfl rfl ?_
            refine o_rd (rd_pick_f rfl rfl) trivial rfl ?_
            refine o_rd (rd_assign rfl) trivial rfl ?_
            refine runO_nil (run_cond_false rfl (run_skip (run_inBlock (run_seq (run_region_lit ?_)))))
            refine o_rd (rd_move rfl) trivial rfl ?_
            refine o_rd (rd_fieldA F48_0 S9 rfl) trivial rfl ?_
            refine o_ld rfl (h.at_ 2 rfl) T9 rfl rfl trivial rfl ?_
            refine o_ef trivial (ef_mapUpdate Tryd.underlying96 K9 3 rfl rfl rfl h rfl (fun w h => ?_))
            refine runO_nil ?_
            replace h := Sat.conv (B := mapR strK mt (encB (met ++ [q.1]))) 3 h rfl (fun _ x => by rw [← kset_encB _ _ (by rw [hk7]; decide)]; exact x)
            refine run_seq (run_seq (run_region_lit ?_))
            refine o_rd (rd_move rfl) trivial rfl ?_
            refine o_rd (rd_fieldA F48_1 S46 rfl) trivial rfl ?_
            refine o_ld rfl (h.at_ 2 rfl) T46 rfl rfl trivial rfl ?_
            refine o_tD (rd_eql rfl rfl) trivial rfl (fun c11 => ?_) (fun c11 => ?_)
            · refine runO_nil (run_cond_true rfl (run_exit rfl (run_region_lit ?_)))
              refine o_rd (rd_addi rfl rfl (by constructor <;> omega)) trivial rfl ?_
              refine o_rd (rd_move rfl) trivial rfl ?_
              refine runO_nil ?_
              -- round of loop 0 path L0.c2t.c4t.c5f.c7f.c8f.c11t. L ['ml', 'ids', 'cb', 'mt', 'mc', 'o', 'B', 'J', 'D']
              exact run_fewer (sub_cons rfl (sub_cons rfl (sub_cons rfl (sub_cons rfl (sub_cons rfl (sub_cons rfl (sub_cons rfl (sub_cons rfl (sub_nil _))))))))) (ih (i + 1, met ++ [q.1], ch, sz, bs, _) w ⟨(Sat.bring 7 (Sat.bring 7 (Sat.bring 7 (Sat.bring 7 (Sat.bring 3 (Sat.bring 7 (Sat.bring 7 (Sat.bring 7 (Sat.out 2 h))))))))), by omega, by rw [← hset]; exact (setL_same hq c5 c7 (fun x => by rw [x.2] at c4; cases c4) (by omega)).symm, by omega, by omega, hcn, by omega, by omega⟩ (by simp only []; omega))
            · refine runO_nil (run_cond_false rfl (run_skip (run_seq (run_region_lit ?_))))
              refine o_rd (rd_move rfl) trivial rfl ?_
              refine o_rd (rd_fieldA F48_0 S9 rfl) trivial rfl ?_
              refine o_ld rfl (h.at_ 2 rfl) T9 rfl rfl trivial rfl ?_
              refine o_rd (rd_fieldA F48_1 S46 rfl) trivial rfl ?_
              refine o_ld rfl (h.at_ 2 rfl) T46 rfl rfl trivial rfl ?_
              refine o_ef trivial (ef_mapUpdate Tryd.underlying43 K9 4 rfl rfl rfl h rfl (fun w h => ?_))
              refine runO_nil ?_
              replace h := Sat.conv (B := mapR strK mc (encI (kset ch q.1 q.2))) 4 h rfl (fun _ x => by rw [← kset_encI]; exact x)
              refine run_seq ?_
              refine run_drawS 7 1 [(0, true), (1, true), (2, true), (4, true), (5, true), (3, false), (6, false), (7, false)] [(_, true), (_, true), (_, true), (_, true), (_, true), (_, false), (_, false), (_, false)] h (Holds.cons (h.at_ 2 rfl) (Holds.nil _)) mixed (by kernel_rfl) rfl ?_
              intro w h hK
              refine d_rd (rd_move rfl) hK trivial rfl ?_
              refine d_rd (rd_fieldA F48_0 S9 rfl) hK trivial rfl ?_
              refine d_ld rfl 0 rfl T9 rfl rfl hK trivial rfl ?_
              refine d_rd (rd_fieldA F48_1 S46 rfl) hK trivial rfl ?_
              refine d_ld rfl 0 rfl T46 rfl rfl hK trivial rfl ?_
              refine d_ef trivial (ef_call (Tryd.call50) rfl rfl ?_)
              refine FnC.mono (oc_PutText (fun g x => own_rowR g x) (by omega) (by omega) (Sat.bring 5 h)) ?_
              rintro _ w ⟨ax, nx, cx, rfl, h⟩
              obtain ⟨hnx, hcx, hmx⟩ := own_len 0 h rfl
              subst hnx
              refine ⟨fun _ => (Holds.cons (h.at_ 4 rfl) (Holds.nil _)), ?_⟩
              replace hK := (Holds.cons (h.at_ 4 rfl) (Holds.nil _))
              refine d_ef trivial (ef_call (Tryd.call49) rfl rfl ?_)
              refine FnC.mono (oc_PutWord (fun g x => own_rowR g x) (by simp only [List.length_append, putT]; have := putU_len10 (x := q.1.size) (by omega); have e9 : q.1.data.toList.length = q.1.size := rfl; omega) hqv.2 h) ?_
              rintro _ w ⟨aw, nw, cw, rfl, h⟩
              refine ⟨fun _ => (Holds.cons (h.at_ 5 rfl) (Holds.nil _)), ?_⟩
              replace hK := (Holds.cons (h.at_ 5 rfl) (Holds.nil _))
              refine d_rd0 (rd_assign rfl) hK trivial rfl ?_
              refine d_nil ?_
              refine run_block (run_seq (run_region_lit ?_))
              refine o_rd (rd_fieldA F48_1 S46 rfl) trivial rfl ?_
              refine o_ld rfl (h.at_ 5 rfl) T46 rfl rfl trivial rfl ?_
              refine o_tD (rd_eql rfl rfl) trivial rfl (fun c12 => ?_) (fun c12 => ?_)
              · refine o_rd (rd_assign rfl) trivial rfl ?_
                refine runO_nil (run_cond_true rfl (run_region_lit ?_))
                refine o_rd (rd_move rfl) trivial rfl ?_
                refine o_rd (rd_subi rfl rfl (by constructor <;> omega)) trivial rfl ?_
                refine o_rd (rd_assign rfl) trivial rfl ?_
                refine runO_nil (run_inBlock (run_inBlock (run_region_lit ?_)))
                refine o_rd (rd_addi rfl rfl (by constructor <;> omega)) trivial rfl ?_
                refine o_rd (rd_move rfl) trivial rfl ?_
                refine runO_nil ?_
                -- round of loop 0 path L0.c2t.c4t.c5f.c7f.c8f.c11f.c12t. L ['o3', 'o2', 'o', 'ml', 'ids', 'cb', 'mt', 'mc', 'B', 'J', 'D']
                have hks := ksetL_len ch q.1 q.2
                have hpt : (putT q.1).length ≤ q.1.size + 11 := by
                  have := putU_len10 (x := q.1.size) (by omega)
                  simp only [putT, List.length_append]
                  have e9 : q.1.data.toList.length = q.1.size := rfl
                  omega
                exact run_fewer (sub_cons rfl (sub_cons rfl (sub_cons rfl (sub_cons rfl (sub_cons rfl (sub_cons rfl (sub_cons rfl (sub_cons rfl (sub_nil _))))))))) (ih (i + 1, met ++ [q.1], kset ch q.1 q.2, sz - 1, bs ++ putT q.1 ++ putW q.2, _) w ⟨(Sat.bring 7 (Sat.bring 7 (Sat.bring 7 (Sat.bring 4 (Sat.bring 4 (Sat.bring 7 (Sat.bring 7 (Sat.bring 7 (Sat.out 1 (Sat.out 2 (Sat.out 5 h))))))))))), by omega, by rw [← hset]; exact (setL_go hq c5 c7 (fun x => by rw [x.2] at c4; cases c4) (by omega) (if_pos (by omega))).symm, by omega, by omega, Slx.nodup_kset hcn _ _, by omega, by simp only [List.length_append, putW_len]; omega⟩ (by simp only []; omega))
              · refine o_rd (rd_assign rfl) trivial rfl ?_
                refine runO_nil (run_cond_false rfl (run_seq (run_region_lit ?_)))
                refine o_rd (rd_move rfl) trivial rfl ?_
                refine o_rd (rd_not rfl) trivial rfl ?_
                refine o_rd (rd_assign rfl) trivial rfl ?_
                refine runO_nil (run_cond_false rfl (run_skip (run_inBlock (run_inBlock (run_region_lit ?_)))))
                refine o_rd (rd_addi rfl rfl (by constructor <;> omega)) trivial rfl ?_
                refine o_rd (rd_move rfl) trivial rfl ?_
                refine runO_nil ?_
                -- round of loop 0 path L0.c2t.c4t.c5f.c7f.c8f.c11f.c12f. L ['o3', 'o2', 'o', 'ml', 'ids', 'cb', 'mt', 'mc', 'B', 'J', 'D']
                have hks := ksetL_len ch q.1 q.2
                have hpt : (putT q.1).length ≤ q.1.size + 11 := by
                  have := putU_len10 (x := q.1.size) (by omega)
                  simp only [putT, List.length_append]
                  have e9 : q.1.data.toList.length = q.1.size := rfl
                  omega
                exact run_fewer (sub_cons rfl (sub_cons rfl (sub_cons rfl (sub_cons rfl (sub_cons rfl (sub_cons rfl (sub_cons rfl (sub_cons rfl (sub_nil _))))))))) (ih (i + 1, met ++ [q.1], kset ch q.1 q.2, sz, bs ++ putT q.1 ++ putW q.2, _) w ⟨(Sat.bring 7 (Sat.bring 7 (Sat.bring 7 (Sat.bring 4 (Sat.bring 4 (Sat.bring 7 (Sat.bring 7 (Sat.bring 7 (Sat.out 1 (Sat.out 2 (Sat.out 5 h))))))))))), by omega, by rw [← hset]; exact (setL_go hq c5 c7 (fun x => by rw [x.2] at c4; cases c4) (by omega) (by rw [if_neg (by omega), if_pos c4])).symm, by omega, by omega, Slx.nodup_kset hcn _ _, by omega, by simp only [List.length_append, putW_len]; omega⟩ (by simp only []; omega))
    · refine d_rd0 (rd_assign rfl) hK trivial rfl ?_
      refine d_rd0 (rd_assign rfl) hK trivial rfl ?_
      refine d_nil ?_
      replace h := h.mapClose 1 rfl hm3
      rw [look_is hE] at c4
      replace h := idsR_close hE h
      refine run_seq (run_seq (run_region_lit ?_))
      refine o_rd (rd_fieldA F48_0 S9 rfl) trivial rfl ?_
      refine o_ld rfl (h.at_ 1 rfl) T9 rfl rfl trivial rfl ?_
      refine o_ef trivial (ef_call (Tryd.call48) rfl rfl ?_)
      refine FnC.mono (rs_may (Sat.bring 5 h)) ?_
      rintro _ w ⟨rfl, h⟩
      refine o_rd (rd_assign rfl) trivial rfl ?_
      refine runO_nil (run_block (run_seq (run_region_lit ?_)))
      refine o_rd (rd_move rfl) trivial rfl ?_
      refine o_tN (rd_neq rfl rfl) trivial rfl (fun c13 => ?_) (fun c13 => ?_)
      · refine o_rd (rd_assign rfl) trivial rfl ?_
        refine runO_nil (run_cond_true rfl (run_seq (run_region_lit ?_)))
        refine o_rd (rd_move rfl) trivial rfl ?_
        refine o_rd (rd_assign rfl) trivial rfl ?_
        refine runO_nil ?_
        refine run_ret Tryd.func18 (RV.tmp rfl RV.nil) ?_
        -- ret 2 path L0.c2t.c4f.c13t. L ['ml', 'ids', 'cb', 'mt', 'mc', 'o', 'B', 'J', 'D']
        have hv := hset.symm.trans (setL_may hq c13)
        rw [set_err (V := (⟨I, J, D⟩ : RefV)) hv c13]
        exact ⟨rfl, refsR_close (Sat.bring 4 (Sat.bring 4 (Sat.bring 4 (Sat.bring 1 (Sat.bring 2 (Sat.out 2 (Sat.out 3 (Sat.out 4 (Sat.out 5 h)))))))))⟩
      · refine o_rd (rd_assign rfl) trivial rfl ?_
        refine runO_nil (run_cond_false rfl (run_seq ?_))
        obtain ⟨es14, ck14, hm14, h⟩ := h.mapOpen 3 rfl
        have hz14 := hm14.len
        refine run_region_lit ?_
        refine o_rd (rd_move rfl) trivial rfl ?_
        refine o_rd (rd_fieldA F48_0 S9 rfl) trivial rfl ?_
        refine o_ld rfl (h.at_ 2 rfl) T9 rfl rfl trivial rfl ?_
        refine o_look1 hm14 K9 Tryd.underlying96 S4 rfl (h.at_ 3 rfl) rfl trivial rfl ?_
        rw [look_b]
        refine o_rd (rd_assign rfl) trivial rfl ?_
        refine runO_nil ?_
        replace h := h.mapClose 3 rfl hm14
        refine run_cond rfl (fun c15 => ?_) (fun c15 => ?_)
        · refine run_seq (run_region_lit ?_)
          refine o_rd (rd_assign rfl) trivial rfl ?_
          refine runO_nil ?_
          refine run_ret Tryd.func18 (RV.tmp rfl RV.nil) ?_
          -- ret 3 path L0.c2t.c4f.c13f.c15t. L ['ml', 'ids', 'cb', 'mt', 'mc', 'o', 'B', 'J', 'D']
          have hv := hset.symm.trans (setL_twice hq c13 c15)
          rw [set_err (V := (⟨I, J, D⟩ : RefV)) hv (by decide)]
          exact ⟨rfl, refsR_close (Sat.bring 4 (Sat.bring 4 (Sat.bring 4 (Sat.bring 1 (Sat.bring 2 (Sat.out 2 (Sat.out 3 (Sat.out 4 (Sat.out 5 h)))))))))⟩
        · have hk7 := c15
          refine run_seq (run_region_lit ?_)
          refine o_rd (rd_fieldA F48_1 S46 rfl) trivial rfl ?_
          refine o_ld rfl (h.at_ 2 rfl) T46 rfl rfl trivial rfl ?_
          refine o_tD (rd_eql rfl rfl) trivial rfl (fun c16 => ?_) (fun c16 => ?_)
          · refine o_rd (rd_move rfl) trivial rfl ?_
            refine o_rd (rd_move rfl) rfl rfl ?_
            refine o_rd (rd_not rfl) rfl rfl ?_
            refine o_rd (rd_pick_t rfl rfl) trivial rfl ?_
            refine o_rd (rd_assign rfl) trivial rfl ?_
            refine runO_nil (run_cond_true rfl (run_seq (run_region_lit ?_)))
            refine o_rd (rd_assign rfl) trivial rfl ?_
            refine runO_nil ?_
            refine run_ret Tryd.func18 (RV.tmp rfl RV.nil) ?_
            -- ret 4 path L0.c2t.c4f.c13f.c15f.c16t. L ['ml', 'ids', 'cb', 'mt', 'mc', 'o', 'B', 'J', 'D']
            have hv := hset.symm.trans (setL_none hq c13 c15 (by omega) (by simpa using c4))
            rw [set_err (V := (⟨I, J, D⟩ : RefV)) hv (by decide)]
            exact ⟨rfl, refsR_close (Sat.bring 4 (Sat.bring 4 (Sat.bring 4 (Sat.bring 1 (Sat.bring 2 (Sat.out 2 (Sat.out 3 (Sat.out 4 (Sat.out 5 h)))))))))⟩
          · refine o_rd (rd_move rfl) trivial rfl ?_
            refine o_pass rfl rfl rfl rfl ?_
            refine o_pass rfl rfl rfl rfl ?_
            refine o_rd (rd_pick_f rfl rfl) trivial rfl ?_
            refine o_rd (rd_assign rfl) trivial rfl ?_
            refine runO_nil (run_cond_false rfl (run_skip (run_inBlock (run_seq (run_region_lit ?_)))))
            refine o_rd (rd_move rfl) trivial rfl ?_
            refine o_rd (rd_fieldA F48_0 S9 rfl) trivial rfl ?_
            refine o_ld rfl (h.at_ 2 rfl) T9 rfl rfl trivial rfl ?_
            refine o_ef trivial (ef_mapUpdate Tryd.underlying96 K9 3 rfl rfl rfl h rfl (fun w h => ?_))
            refine runO_nil ?_
            replace h := Sat.conv (B := mapR strK mt (encB (met ++ [q.1]))) 3 h rfl (fun _ x => by rw [← kset_encB _ _ (by rw [hk7]; decide)]; exact x)
            refine run_seq (run_seq (run_region_lit ?_))
            refine o_rd (rd_move rfl) trivial rfl ?_
            refine o_rd (rd_fieldA F48_1 S46 rfl) trivial rfl ?_
            refine o_ld rfl (h.at_ 2 rfl) T46 rfl rfl trivial rfl ?_
            refine o_tD (rd_eql rfl rfl) trivial rfl (fun c17 => ?_) (fun c17 => ?_)
            · refine runO_nil (run_cond_true rfl (run_exit rfl (run_region_lit ?_)))
              refine o_rd (rd_addi rfl rfl (by constructor <;> omega)) trivial rfl ?_
              refine o_rd (rd_move rfl) trivial rfl ?_
              refine runO_nil ?_
              -- round of loop 0 path L0.c2t.c4f.c13f.c15f.c16f.c17t. L ['ml', 'ids', 'cb', 'mt', 'mc', 'o', 'B', 'J', 'D']
              exact run_fewer (sub_cons rfl (sub_cons rfl (sub_cons rfl (sub_cons rfl (sub_cons rfl (sub_cons rfl (sub_cons rfl (sub_cons rfl (sub_nil _))))))))) (ih (i + 1, met ++ [q.1], ch, sz, bs, _) w ⟨(Sat.bring 7 (Sat.bring 7 (Sat.bring 7 (Sat.bring 7 (Sat.bring 3 (Sat.bring 7 (Sat.bring 7 (Sat.bring 7 (Sat.out 2 h))))))))), by omega, by rw [← hset]; exact (setL_same hq c13 c15 (fun x => c16 (by omega)) (by omega)).symm, by omega, by omega, hcn, by omega, by omega⟩ (by simp only []; omega))
            · refine runO_nil (run_cond_false rfl (run_skip (run_seq (run_region_lit ?_))))
              refine o_rd (rd_move rfl) trivial rfl ?_
              refine o_rd (rd_fieldA F48_0 S9 rfl) trivial rfl ?_
              refine o_ld rfl (h.at_ 2 rfl) T9 rfl rfl trivial rfl ?_
              refine o_rd (rd_fieldA F48_1 S46 rfl) trivial rfl ?_
              refine o_ld rfl (h.at_ 2 rfl) T46 rfl rfl trivial rfl ?_
              refine o_ef trivial (ef_mapUpdate Tryd.underlying43 K9 4 rfl rfl rfl h rfl (fun w h => ?_))
              refine runO_nil ?_
              replace h := Sat.conv (B := mapR strK mc (encI (kset ch q.1 q.2))) 4 h rfl (fun _ x => by rw [← kset_encI]; exact x)
              refine run_seq ?_
              refine run_drawS 7 1 [(0, true), (1, true), (2, true), (4, true), (5, true), (3, false), (6, false), (7, false)] [(_, true), (_, true), (_, true), (_, true), (_, true), (_, false), (_, false), (_, false)] h (Holds.cons (h.at_ 2 rfl) (Holds.nil _)) mixed (by kernel_rfl) rfl ?_
              intro w h hK
              refine d_rd (rd_move rfl) hK trivial rfl ?_
              refine d_rd (rd_fieldA F48_0 S9 rfl) hK trivial rfl ?_
              refine d_ld rfl 0 rfl T9 rfl rfl hK trivial rfl ?_
              refine d_rd (rd_fieldA F48_1 S46 rfl) hK trivial rfl ?_
              refine d_ld rfl 0 rfl T46 rfl rfl hK trivial rfl ?_
              refine d_ef trivial (ef_call (Tryd.call50) rfl rfl ?_)
              refine FnC.mono (oc_PutText (fun g x => own_rowR g x) (by omega) (by omega) (Sat.bring 5 h)) ?_
              rintro _ w ⟨ax, nx, cx, rfl, h⟩
              obtain ⟨hnx, hcx, hmx⟩ := own_len 0 h rfl
              subst hnx
              refine ⟨fun _ => (Holds.cons (h.at_ 4 rfl) (Holds.nil _)), ?_⟩
              replace hK := (Holds.cons (h.at_ 4 rfl) (Holds.nil _))
              refine d_ef trivial (ef_call (Tryd.call49) rfl rfl ?_)
              refine FnC.mono (oc_PutWord (fun g x => own_rowR g x) (by simp only [List.length_append, putT]; have := putU_len10 (x := q.1.size) (by omega); have e9 : q.1.data.toList.length = q.1.size := rfl; omega) hqv.2 h) ?_
              rintro _ w ⟨aw, nw, cw, rfl, h⟩
              refine ⟨fun _ => (Holds.cons (h.at_ 5 rfl) (Holds.nil _)), ?_⟩
              replace hK := (Holds.cons (h.at_ 5 rfl) (Holds.nil _))
              refine d_rd0 (rd_assign rfl) hK trivial rfl ?_
              refine d_nil ?_
              refine run_block (run_seq (run_region_lit ?_))
              refine o_rd (rd_fieldA F48_1 S46 rfl) trivial rfl ?_
              refine o_ld rfl (h.at_ 5 rfl) T46 rfl rfl trivial rfl ?_
              refine o_tD (rd_eql rfl rfl) trivial rfl (fun c18 => ?_) (fun c18 => ?_)
              · refine o_rd (rd_assign rfl) trivial rfl ?_
                refine runO_nil (run_cond_true rfl (run_region_lit ?_))
                refine o_rd (rd_move rfl) trivial rfl ?_
                refine o_rd (rd_subi rfl rfl (by constructor <;> omega)) trivial rfl ?_
                refine o_rd (rd_assign rfl) trivial rfl ?_
                refine runO_nil (run_inBlock (run_inBlock (run_region_lit ?_)))
                refine o_rd (rd_addi rfl rfl (by constructor <;> omega)) trivial rfl ?_
                refine o_rd (rd_move rfl) trivial rfl ?_
                refine runO_nil ?_
                -- round of loop 0 path L0.c2t.c4f.c13f.c15f.c16f.c17f.c18t. L ['o3', 'o2', 'o', 'ml', 'ids', 'cb', 'mt', 'mc', 'B', 'J', 'D']
                have hks := ksetL_len ch q.1 q.2
                have hpt : (putT q.1).length ≤ q.1.size + 11 := by
                  have := putU_len10 (x := q.1.size) (by omega)
                  simp only [putT, List.length_append]
                  have e9 : q.1.data.toList.length = q.1.size := rfl
                  omega
                exact run_fewer (sub_cons rfl (sub_cons rfl (sub_cons rfl (sub_cons rfl (sub_cons rfl (sub_cons rfl (sub_cons rfl (sub_cons rfl (sub_nil _))))))))) (ih (i + 1, met ++ [q.1], kset ch q.1 q.2, sz - 1, bs ++ putT q.1 ++ putW q.2, _) w ⟨(Sat.bring 7 (Sat.bring 7 (Sat.bring 7 (Sat.bring 4 (Sat.bring 4 (Sat.bring 7 (Sat.bring 7 (Sat.bring 7 (Sat.out 1 (Sat.out 2 (Sat.out 5 h))))))))))), by omega, by rw [← hset]; exact (setL_go hq c13 c15 (fun x => c16 (by omega)) (by omega) (if_pos (by omega))).symm, by omega, by omega, Slx.nodup_kset hcn _ _, by omega, by simp only [List.length_append, putW_len]; omega⟩ (by simp only []; omega))
              · refine o_rd (rd_assign rfl) trivial rfl ?_
                refine runO_nil (run_cond_false rfl (run_seq (run_region_lit ?_)))
                refine o_rd (rd_move rfl) trivial rfl ?_
                refine o_rd (rd_not rfl) trivial rfl ?_
                refine o_rd (rd_assign rfl) trivial rfl ?_
                refine runO_nil (run_cond_true rfl (run_region_lit ?_))
                refine o_rd (rd_move rfl) trivial rfl ?_
                refine o_rd (rd_addi rfl rfl (by constructor <;> omega)) trivial rfl ?_
                refine o_rd (rd_assign rfl) trivial rfl ?_
                refine runO_nil (run_inBlock (run_inBlock (run_region_lit ?_)))
                refine o_rd (rd_addi rfl rfl (by constructor <;> omega)) trivial rfl ?_
                refine o_rd (rd_move rfl) trivial rfl ?_
                refine runO_nil ?_
                -- round of loop 0 path L0.c2t.c4f.c13f.c15f.c16f.c17f.c18f. L ['o3', 'o2', 'o', 'ml', 'ids', 'cb', 'mt', 'mc', 'B', 'J', 'D']
                have hks := ksetL_len ch q.1 q.2
                have hpt : (putT q.1).length ≤ q.1.size + 11 := by
                  have := putU_len10 (x := q.1.size) (by omega)
                  simp only [putT, List.length_append]
                  have e9 : q.1.data.toList.length = q.1.size := rfl
                  omega
                exact run_fewer (sub_cons rfl (sub_cons rfl (sub_cons rfl (sub_cons rfl (sub_cons rfl (sub_cons rfl (sub_cons rfl (sub_cons rfl (sub_nil _))))))))) (ih (i + 1, met ++ [q.1], kset ch q.1 q.2, (sz + 1), bs ++ putT q.1 ++ putW q.2, _) w ⟨(Sat.bring 7 (Sat.bring 7 (Sat.bring 7 (Sat.bring 4 (Sat.bring 4 (Sat.bring 7 (Sat.bring 7 (Sat.bring 7 (Sat.out 1 (Sat.out 2 (Sat.out 5 h))))))))))), by omega, by rw [← hset]; exact (setL_go hq c13 c15 (fun x => c16 (by omega)) (by omega) (by rw [if_neg (by omega), if_neg (by rw [c4]; decide)])).symm, by omega, by omega, Slx.nodup_kset hcn _ _, by omega, by simp only [List.length_append, putW_len]; omega⟩ (by simp only []; omega))
  · refine runO_nil (run_seq (run_cond_false rfl (run_exit rfl (run_seq (run_seq (run_region_lit ?_))))))
    refine o_rd (rd_move rfl) trivial rfl ?_
    refine o_tD (rd_gtr rfl rfl) trivial rfl (fun c19 => ?_) (fun c19 => ?_)
    · refine runO_nil (run_cond_true rfl (run_seq (run_region_lit ?_)))
      refine o_rd (rd_assign rfl) trivial rfl ?_
      refine runO_nil ?_
      refine run_ret Tryd.func18 (RV.tmp rfl RV.nil) ?_
      -- ret 5 path L0.c2f.c19t. L ['ids', 'mt', 'mc', 'o', 'ml', 'B', 'J', 'D']
      have hv := hset.symm.trans (setL_out (by omega))
      rw [set_long (V := (⟨I, J, D⟩ : RefV)) hv (by omega)]
      exact ⟨rfl, refsR_close (Sat.bring 4 (Sat.bring 4 (Sat.bring 4 (Sat.bring 2 (Sat.bring 2 (Sat.out 1 (Sat.out 2 (Sat.out 3 h))))))))⟩
    · refine runO_nil (run_cond_false rfl (run_skip (run_seq (run_seq ?_))))
      obtain ⟨es20, ck20, hm20, h⟩ := h.mapOpen 2 rfl
      have hz20 := hm20.len
      refine run_region_lit ?_
      refine o_rd (rd_move rfl) trivial rfl ?_
      refine o_lenM rfl (h.at_ 2 rfl) T43 trivial rfl ?_
      refine o_tD (rd_eql rfl rfl) trivial rfl (fun c21 => ?_) (fun c21 => ?_)
      · refine runO_nil ?_
        replace h := h.mapClose 2 rfl hm20
        refine run_cond_true rfl (run_seq (run_region_lit ?_))
        refine o_rd (rd_assign rfl) trivial rfl ?_
        refine runO_nil ?_
        refine run_ret Tryd.func18 (RV.tmp rfl RV.nil) ?_
        -- ret 6 path L0.c2f.c19f.c21t. L ['ids', 'mt', 'mc', 'o', 'ml', 'B', 'J', 'D']
        rw [len_encI] at hz20
        have hv := hset.symm.trans (setL_out (by omega))
        rw [set_nil (V := (⟨I, J, D⟩ : RefV)) hv (by omega) (by omega)]
        exact ⟨rfl, refsR_close (Sat.bring 4 (Sat.bring 4 (Sat.bring 4 (Sat.bring 2 (Sat.bring 2 (Sat.out 1 (Sat.out 2 (Sat.out 3 h))))))))⟩
      · rw [len_encI] at hz20
        refine runO_nil ?_
        replace h := h.mapClose 2 rfl hm20
        refine run_cond_false rfl (run_skip (run_seq (run_seq ?_)))
        obtain ⟨m, K, hE, h⟩ := idsR_open (Sat.lone (A := rowR none (bcells [])) (fun _ => .inl rfl) h).swap
        obtain ⟨es22, ck22, hm22, h⟩ := h.mapOpen 4 rfl
        have hz22 := hm22.len
        refine run_drawS 11 1 [(0, true), (1, true), (2, true), (3, true), (4, true), (5, true), (6, true), (8, true), (7, false), (9, false), (10, false), (11, false)] [(_, true), (_, true), (_, true), (_, true), (_, true), (_, true), (_, true), (_, true), (_, false), (_, false), (_, false), (_, false)] h (Holds.cons (h.at_ 0 rfl) (Holds.cons (h.at_ 4 rfl) (Holds.nil _))) mixed (by kernel_rfl) rfl ?_
        intro w h hK
        refine d_rd (rd_move rfl) hK trivial rfl ?_
        refine d_rd (rd_nil rfl) hK trivial rfl ?_
        refine d_rd (rd_fieldA F91_1 S87 rfl) hK trivial rfl ?_
        refine d_ld rfl 0 rfl T87 rfl rfl hK trivial rfl ?_
        refine d_rd (rd_move rfl) hK trivial rfl ?_
        refine d_lenM rfl 1 rfl T43 hK trivial rfl ?_
        refine d_rd (Reads.to (v' := .int .u64 (ch.length : Int)) (rd_conv T3 T45 rfl) (by rw [len_encI] at hz22; rw [hz22]; exact convU64 (by omega))) hK trivial rfl ?_
        refine d_rd (rd_move rfl) hK trivial rfl ?_
        refine d_ef trivial (ef_call (Tryd.call52) rfl rfl ?_)
        refine FnC.mono (oc_PutUint (bs := []) (a := none) (cap := 0) (fun g x => x) (by simp) (by omega) (Sat.bring 2 h)) ?_
        rintro _ w ⟨au, nu, cu, rfl, h⟩
        rw [List.nil_append] at h
        have hpu := putU_len10 (x := ch.length) (by omega)
        refine ⟨fun _ => (Holds.cons (h.at_ 2 rfl) (Holds.cons (h.at_ 5 rfl) (Holds.nil _))), ?_⟩
        replace hK := (Holds.cons (h.at_ 2 rfl) (Holds.cons (h.at_ 5 rfl) (Holds.nil _)))
        refine d_ef trivial (ef_append Tryd.underlying32 N32 S5 rfl 0 rfl rfl h rfl (Src.slice (h.rowOf 6 rfl (fun g x => own_rowR g x)) (bcells_len _) (ones_bcells _)) (bcells_len _) rfl (by omega) (by omega) rfl (fun a31 w h => ?_))
        rw [← bcells_append] at h
        obtain ⟨a7, n7, c7, rfl, hl7, hc7, hm7, _⟩ := Sat.ownRow 0 h rfl
        rw [bcells_len] at hl7
        obtain rfl : n7 = (putU ch.length ++ bs).length := by omega
        refine ⟨fun _ => (Holds.cons (h.at_ 2 rfl) (Holds.cons (h.at_ 5 rfl) (Holds.nil _))), ?_⟩
        replace hK := (Holds.cons (h.at_ 2 rfl) (Holds.cons (h.at_ 5 rfl) (Holds.nil _)))
        refine d_ef trivial (ef_call (Tryd.call51) rfl rfl ?_)
        refine FnC.mono (jr_Append (p := putU ch.length ++ bs) (fun g x => own_rowR g x) (by simp only [List.length_append]; omega) (by simp only [List.length_append]; omega) (by omega) (by omega) (Sat.bring 10 (Sat.bring 10 h))) ?_
        rintro _ w ⟨rfl, h⟩
        refine ⟨fun _ => (Holds.cons (h.at_ 4 rfl) (Holds.cons (h.at_ 7 rfl) (Holds.nil _))), ?_⟩
        replace hK := (Holds.cons (h.at_ 4 rfl) (Holds.cons (h.at_ 7 rfl) (Holds.nil _)))
        refine d_rd0 (rd_assign rfl) hK trivial rfl ?_
        refine d_nil ?_
        replace h := h.mapClose 7 rfl hm22
        refine run_seq (run_region_lit ?_)
        refine o_rd (rd_move rfl) trivial rfl ?_
        refine o_tN (rd_neq rfl rfl) trivial rfl (fun c23 => ?_) (fun c23 => ?_)
        · refine runO_nil (run_cond_true rfl (run_seq (run_region_lit ?_)))
          refine o_rd (rd_move rfl) trivial rfl ?_
          refine o_rd (rd_assign rfl) trivial rfl ?_
          refine runO_nil ?_
          refine run_ret Tryd.func18 (RV.tmp rfl RV.nil) ?_
          -- ret 7 path L0.c2f.c19f.c21f.c23t. L ['J', 'D', 'u', 'nil', 'b', 'm', 'mt', 'mc', 'o', 'ml', 'B']
          have hv := hset.symm.trans (setL_out (by omega))
          rw [set_bad (V := (⟨I, J, D⟩ : RefV)) hv (by omega) (by omega) c23]
          exact ⟨rfl, refsR_close (idsR_close hE (Sat.bring 5 (Sat.bring 5 (Sat.bring 3 (Sat.bring 3 (Sat.bring 5 (Sat.bring 5 (Sat.out 2 (Sat.out 3 (Sat.out 6 (Sat.out 7 (Sat.out 8 h))))))))))))⟩
        · refine runO_nil (run_cond_false rfl (run_skip (run_seq (run_region_lit ?_))))
          refine o_rd (rd_move rfl) trivial rfl ?_
          refine o_rd (rd_move rfl) trivial rfl ?_
          refine o_ef trivial (ef_call (Tryd.call53) rfl rfl ?_)
          refine FnC.mono (rs_lay hE.2.1 hcn (Sat.bring 6 (Sat.bring 6 (Sat.bring 7 h)))) ?_
          rintro _ w ⟨K2, hk1, hk2, h⟩
          refine runO_nil (run_seq (run_region_lit ?_))
          refine o_rd (rd_assign rfl) trivial rfl ?_
          refine runO_nil ?_
          refine run_ret Tryd.func18 (RV.tmp rfl RV.nil) ?_
          -- ret 8 path L0.c2f.c19f.c21f.c23f. L ['b', 'm', 'mc', 'J', 'D', 'u', 'nil', 'mt', 'o', 'ml', 'B']
          have hE2 : Eqv K2 (layI I ch) := ⟨fun k => by rw [hk1, layI_get ch hE.2.2 hcn]; simp only [layG, hE.1], hk2, layI_nodup ch hE.2.2⟩
          have hv := hset.symm.trans (setL_out (by omega))
          rw [set_ok (V := (⟨I, J, D⟩ : RefV)) hv (by omega) (by omega) c23]
          exact ⟨rfl, refsR_close (idsR_close hE2 (Sat.out 2 (Sat.out 5 (Sat.out 6 (Sat.out 7 (Sat.out 8 h))))))⟩

end Go.Proofs.YtmhpgdpegneejaaDoor
