import Derived.Test.YtmhpgdpegneejaaDoorLw0
import Derived.Test.YtmhpgdpegneejaaDoorRf1
import Derived.Test.YtmhpgdpegneejaaDoorDk1
set_option maxRecDepth 100000
set_option linter.unusedVariables false
set_option linter.unusedSimpArgs false
namespace Go.Proofs.YtmhpgdpegneejaaDoor
open Go Go.Proofs Go.Proofs.Slx
theorem ref_Names {b : Nat} {W : DiskV} {w : World} {R : List Hp} (hlen : W.files.length ≤ 256)
    (hS : ∀ (a : Option Addr) (n c : Nat) (ss : List ByteArray) (w : World) (R : List Hp), ss.length ≤ 1000000 → Sat w (OwnS 9 1 (.slice a n c) (scells ss) :: R) → FnC Tryd.prog 63 [.slice a n c] w fun _ w' => Sat w' (OwnS 9 1 (.slice a n c) (scells (sortS ss)) :: R)) (h : Sat w (refR b W :: R)) :
    FnC Tryd.prog 32 [(.pointer (some ⟨b, 0, none⟩))] w fun v w' => ∃ a c, v = .slice a (sortS (keys W.files)).length c ∧ Sat w' (OwnS 9 1 (.slice a (sortS (keys W.files)).length c) (scells (sortS (keys W.files))) :: refR b W :: R) := by
  obtain ⟨a, n, c, gs, hcut, hn, hnc, hcm, hkg, h⟩ := refR_open h
  subst hn
  have hgl := len_of_keys hkg
  refine fnC_of_run Tryd.func32 rfl Tryd.ntmps32 (Nat.le_of_ble_eq_true rfl) (fun cs => ?_)
  refine run_seq (run_region_lit ?_)
  refine o_rd (rd_assign rfl) trivial rfl ?_
  refine runO_nil (run_seq (run_region_lit ?_))
  refine o_rd (rd_assign rfl) trivial rfl ?_
  refine runO_nil (run_seq (run_seq (run_region_lit ?_)))
  refine o_rd (rd_move rfl) trivial rfl ?_
  refine o_rd (rd_nil rfl) trivial rfl ?_
  refine o_rd (rd_fieldA F73_0 S71 rfl) trivial rfl ?_
  refine o_ld rfl (h.at_ 0 rfl) T71 rfl rfl trivial rfl ?_
  refine o_rd (rd_len (u := 0) T71 rfl) trivial rfl ?_
  refine o_rd (rd_move rfl) trivial rfl ?_
  refine runO_nil (run_block ?_)
  refine run_loop (σ := Nat × List ByteArray × Option Addr × Nat) (fun (i, ss, a3, k3) => [(3, .slice a3 ss.length k3), (9, .slice a gs.length c), (10, .int .i64 gs.length), (11, .int .i64 (i : Nat))]) (fun (i, ss, a3, k3) w => Sat w (OwnS 9 1 (.slice a3 ss.length k3) (scells ss) :: pt b (.cells #[.slice a gs.length c, .int .i64 W.writes, .int .i64 (if W.cut then W.left else -1)] 73) :: OwnS 76 2 (.slice a gs.length c) (fcells gs) :: valsR gs W.files :: R) ∧ i ≤ gs.length ∧ ss.length ≤ i ∧ ss = keys (W.files.take i)) (fun (i, ss, a3, k3) => gs.length - i) (0, [], none, 0) ?_ (sub_cons rfl (sub_cons rfl (sub_cons rfl (sub_cons rfl (sub_nil _))))) ?_
  · exact ⟨Sat.lone (own_none none) h, Nat.zero_le _, Nat.le_refl _, by simp [keys]⟩
  clear h
  rintro ⟨i, ss, a3, k3⟩ w ⟨h, hi, hil, hss⟩ ih
  refine run_seq (run_region_lit ?_)
  refine o_tD (rd_lss rfl rfl) trivial rfl (fun c1 => ?_) (fun c1 => ?_)
  · refine runO_nil (run_seq (run_cond_true rfl (run_skip (run_seq (run_block (run_seq ?_))))))
    obtain ⟨bb, C, fr, nm, fa, fl, fc, f, ea, hgi, hfi, hfl, hfc, hfm, hb, hcp, hcb, hrow⟩ := file_at 2 3 h rfl rfl (i := i) (by omega)
    subst ea
    refine run_region_lit ?_
    refine o_rd (rd_idx T71 S76 rfl rfl (by omega) (by omega)) trivial rfl ?_
    refine o_ldG rfl hb G76 hcp trivial rfl ?_
    refine o_ef trivial (ef_alloc S76 rfl h (fun t w h => ?_))
    refine o_ef trivial (ef_store S76 0 rfl rfl h rfl rfl rfl (Nat.le_of_ble_eq_true rfl) rfl (fun w h => ?_))
    replace h := Sat.conv (B := pt t (.cells #[.string nm, .slice fa fl fc] 76)) 0 h rfl (fun _ x => x)
    refine runO_nil (run_region_lit ?_)
    refine o_rd (rd_move rfl) trivial rfl ?_
    refine o_rd (rd_fieldA F76_0 S9 rfl) trivial rfl ?_
    refine o_ld rfl (h.at_ 0 rfl) T9 rfl rfl trivial rfl ?_
    refine o_ef trivial (ef_buildSlice Tryd.underlying77 S9 rfl rfl rfl h rfl (fun s w h => ?_))
    replace h := Sat.conv (B := pt s (.cells #[.string nm] 9)) 0 h rfl (fun _ x => x)
    refine o_ef trivial (ef_append Tryd.underlying77 N77 S9 rfl 2 rfl rfl h rfl (Src.slice (h.rowPt 0 rfl) rfl rfl) (scells_len ss) rfl (by omega) (by omega) rfl (fun a5 w h => ?_))
    obtain ⟨a6, n6, c6, rfl, hl6, hc6, hm6, _⟩ := Sat.ownRow 2 h rfl
    have e6 : n6 = (ss ++ [nm]).length := by
      have e7 : (scells ss ++ [Value.string nm]).length = n6 * 1 := hl6
      rw [← scells_snoc, scells_len] at e7
      omega
    subst e6
    refine o_rd (rd_assign rfl) trivial rfl ?_
    refine runO_nil (run_inBlock (run_region_lit ?_))
    refine o_rd (rd_addi rfl rfl (by constructor <;> omega)) trivial rfl ?_
    refine o_rd (rd_move rfl) trivial rfl ?_
    refine runO_nil ?_
    -- round of loop 0 path L0.c1t. L ['s', 't', 'ss', 'd', 'fl', 'vals']
    exact run_fewer (sub_cons rfl (sub_cons rfl (sub_cons rfl (sub_cons rfl (sub_nil _))))) (ih (i + 1, ss ++ [nm], a6, c6) w ⟨by rw [scells_snoc]; exact (Sat.out 0 (Sat.out 1 h)), by omega, by simp only [List.length_append, List.length_cons, List.length_nil]; omega, by rw [hss, keys_snoc hfi]⟩ (by simp only []; omega))
  · refine runO_nil (run_seq (run_cond_false rfl (run_exit rfl (run_seq (run_region_lit ?_)))))
    refine o_rd (rd_move rfl) trivial rfl ?_
    refine o_ef trivial (ef_call (Tryd.call63) rfl rfl ?_)
    refine FnC.mono (hS _ _ _ _ _ _ (by omega) h) ?_
    rintro _ w h
    refine runO_nil (run_seq (run_region_lit ?_))
    refine o_rd (rd_move rfl) trivial rfl ?_
    refine o_rd (rd_assign rfl) trivial rfl ?_
    refine runO_nil ?_
    refine run_ret Tryd.func32 (RV.tmp rfl RV.nil) ?_
    -- ret 0 path L0.c1f. L ['ss', 'd', 'fl', 'vals']
    have e : ss = keys W.files := by rw [hss, List.take_of_length_le (by omega)]
    subst e
    rw [← sortS_len (keys W.files)] at h
    rw [sortS_len (keys W.files), ← sortS_len (keys W.files)]
    exact ⟨a3, k3, rfl, Sat.swap (refR_close hcut (Sat.bring 3 (Sat.bring 3 (Sat.bring 3 h))))⟩

theorem keys_iter {bx m : Nat} {kvs : List (ByteArray × Value)} {fv : Value} {Rf : List ByteArray → List Hp} {w : World}
    (hy : ∀ (done : List ByteArray) (k : ByteArray) (X : Hp) (w : World), (∃ rest, (done ++ k :: rest).Perm (keys kvs)) → Sat w (X :: Rf done) → CallV Tryd.prog fv [strK k] w fun v w' => v = .bool true ∧ Sat w' (X :: Rf (done ++ [k]))) (h : Sat w (pt bx (.cells #[.map (some m)] 68) :: mapR strK m kvs :: Rf [])) :
    FnC Tryd.prog 91 [fv, .pointer (some ⟨bx, 0, none⟩)] w fun v w' => ∃ done : List ByteArray, done.Perm (keys kvs) ∧ Sat w' (pt bx (.cells #[.map (some m)] 68) :: mapR strK m kvs :: Rf done) := by
  refine fnC_of_run Tryd.func91 rfl Tryd.ntmps91 (Nat.le_of_ble_eq_true rfl) (fun cs => ?_)
  refine run_seq (run_region_lit ?_)
  refine o_ld rfl (h.at_ 0 rfl) T68 rfl rfl trivial rfl ?_
  refine o_ef trivial (ef_range Tryd.underlying68 1 rfl h rfl rfl (fun it w h => ?_))
  refine runO_nil (run_block ?_)
  refine run_loop (σ := List (ByteArray × Value) × Option (ByteArray × Value) × List ByteArray) (fun (left, cur, done) => [(0, fv), (5, .pointer (some ⟨it, 0, none⟩))]) (fun (left, cur, done) w => Sat w (pt bx (.cells #[.map (some m)] 68) :: iterR strK m it kvs left cur :: Rf done) ∧ (done ++ keys left).Perm (keys kvs)) (fun (left, cur, done) => left.length) (kvs, none, []) ?_ (sub_cons rfl (sub_cons rfl (sub_nil _))) ?_
  · exact ⟨h, by simp⟩
  clear h
  rintro ⟨left, cur, done⟩ w ⟨h, hp⟩ ih
  refine run_seq (run_region_lit ?_)
  refine o_ef trivial (ef_next 1 rfl h rfl rfl (fun hnil w h => ?_) (fun l1 q v l2 hl w h => ?_))
  · refine o_rd (rd_extract rfl rfl) trivial rfl ?_
    refine runO_nil (run_seq (run_cond_false rfl (run_exit rfl ?_)))
    refine run_end Tryd.func91 RV.nil ?_
    -- ret 0 path L0.N0. L ['bx', 'm']
    subst hnil
    exact ⟨done, by simpa [keys] using hp, h⟩
  · have hpk := perm_mid hp hl
    refine o_rd (rd_extract rfl rfl) trivial rfl ?_
    refine runO_nil (run_seq (run_cond_true rfl (run_skip (run_block (run_seq (run_region_lit ?_))))))
    refine o_ef trivial (ef_entry 1 rfl h rfl rfl ?_)
    refine o_rd (rd_extract rfl rfl) trivial rfl ?_
    refine o_rd (rd_assign rfl) trivial rfl ?_
    refine runO_nil (run_seq (run_region_lit ?_))
    refine o_rd (rd_move rfl) trivial rfl ?_
    refine o_rd (rd_move rfl) trivial rfl ?_
    refine o_ef trivial (ef_callFV rfl rfl rfl ?_)
    refine CallV.mono (hy done q _ _ ⟨_, hpk⟩ (Sat.part (L := [_, _]) h)) ?_
    rintro _ w ⟨rfl, h⟩
    replace h := h.join
    refine o_rd (rd_not rfl) trivial rfl ?_
    refine runO_nil (run_cond_false rfl (run_skip (run_inBlock ?_)))
    -- round of loop 0 path L0.N1. L ['bx', 'm']
    exact run_fewer (sub_cons rfl (sub_cons rfl (sub_nil _))) (ih (l1 ++ l2, some (q, v), done ++ [q]) w ⟨h, by simpa using hpk⟩ (by simp only [hl, List.length_append, List.length_cons]; omega))

theorem keys_seq {bx m : Nat} {kvs : List (ByteArray × Value)} : SeqS Tryd.prog 91 [.pointer (some ⟨bx, 0, none⟩)] (all [pt bx (.cells #[.map (some m)] 68), mapR strK m kvs]) (keys kvs) strK := by
  intro fv Rf w hy h
  refine FnC.mono (keys_iter hy h.join) ?_
  rintro _ w ⟨done, hp, h⟩
  exact ⟨done, hp, Sat.part (L := [_, _]) h⟩

theorem maps_Keys {m : Nat} {w : World} {R : List Hp} (h : Sat w R) :
    FnC Tryd.prog 62 [.map (some m)] w fun v w' => ∃ bx, v = .func (.func 91) #[] #[.pointer (some ⟨bx, 0, none⟩)] ∧ Sat w' (pt bx (.cells #[.map (some m)] 68) :: R) := by
  refine fnC_of_run Tryd.func62 rfl Tryd.ntmps62 (Nat.le_of_ble_eq_true rfl) (fun cs => ?_)
  refine run_seq (run_region_lit ?_)
  refine o_ef trivial (ef_box rfl rfl h (fun bx w h => ?_))
  replace h := Sat.conv (B := pt bx (.cells #[.map (some m)] 68)) 0 h rfl (fun _ x => x)
  refine o_rd (rd_assign rfl) trivial rfl ?_
  refine runO_nil (run_seq (run_region_lit ?_))
  refine o_rd (rd_funcL rfl) trivial rfl ?_
  refine o_rd (rd_assign rfl) trivial rfl ?_
  refine runO_nil ?_
  refine run_ret Tryd.func62 (RV.tmp rfl RV.nil) ?_
  -- ret 0 path  L ['bx']
  exact ⟨bx, rfl, h⟩

theorem append_seq {f : Nat} {cap : List Value} {A : Hp} {ks : List ByteArray} {w : World} {R : List Hp} (hs : SeqS Tryd.prog f cap A ks strK) (hf : ∀ (a : Array Value) (w : World), (callFunc f a).run Tryd.prog w = .ok (.enter f a) w) (hlen : ks.length ≤ 1000000) (h : Sat w (A :: R)) :
    FnC Tryd.prog 99 [.slice none 0 0, .func (.func f) #[] cap.toArray] w fun v w' => ∃ a c done, v = .slice a (List.length (α := ByteArray) done) c ∧ done.Perm ks ∧ Sat w' (OwnS 9 1 (.slice a done.length c) (scells done) :: A :: R) := by
  refine fnC_of_run Tryd.func99 rfl Tryd.ntmps99 (Nat.le_of_ble_eq_true rfl) (fun cs => ?_)
  refine run_seq (run_region_lit ?_)
  refine o_ef trivial (ef_box rfl rfl h (fun t w h => ?_))
  replace h := Sat.conv (B := pt t (.cells #[.slice none 0 0] 77)) 0 h rfl (fun _ x => x)
  refine o_rd (rd_assign rfl) trivial rfl ?_
  refine runO_nil (run_seq (run_seq (run_region_lit ?_)))
  refine o_rd (rd_move rfl) trivial rfl ?_
  refine runO_nil (run_block ?_)
  refine run_rangeFunc (cap := cap) rfl hf h (fun rb lp r w hr h => ?_)
  refine FnC.mono (hs _ (fun done => sbox t done :: pt lp (.loop r) :: pt rb (.deferred (some [])) :: R) w (fun done k X w hdk h => ?_) (Sat.bring 3 (sbox_close (a := none) (c := 0) (done := []) (Sat.swap (Sat.lone (own_none none) (Sat.bring 3 (Sat.bring 2 (Sat.bring 2 (Sat.bring 3 h))))))))) ?_
  · obtain ⟨a3, c3, h⟩ := sbox_open (Sat.bring 1 h)
    obtain ⟨rest, hdk⟩ := hdk
    have hdl : done.length ≤ 1000000 := by have := hdk.length_eq; simp at this; omega
    refine callV_round hr (h.at_ 3 rfl) rfl rfl (fun F cf cs hk => ?_)
    refine run_region_lit ?_
    refine o_rd (rd_assign rfl) trivial rfl ?_
    refine runO_nil ?_
    refine run_begin 3 h rfl hr.state (fun w h => ?_)
    refine run_block (run_region_lit ?_)
    refine o_ld rfl (h.at_ 0 rfl) T77 rfl rfl trivial rfl ?_
    refine o_rd (rd_move rfl) trivial rfl ?_
    refine o_ef trivial (ef_buildSlice Tryd.underlying77 S9 rfl rfl rfl h rfl (fun s w h => ?_))
    replace h := Sat.conv (B := pt s (.cells #[.string k] 9)) 0 h rfl (fun _ x => x)
    refine o_ef trivial (ef_append Tryd.underlying77 N77 S9 rfl 2 rfl rfl h rfl (Src.slice (h.rowPt 0 rfl) rfl rfl) (scells_len done) rfl (by omega) (by omega) rfl (fun a3 w h => ?_))
    obtain ⟨a6, n6, c6, rfl, hl6, _⟩ := Sat.ownRow 2 h rfl
    have e6 : n6 = (done ++ [k]).length := by
      have e7 : (scells done ++ [Value.string k]).length = n6 * 1 := hl6
      rw [← scells_snoc, scells_len] at e7
      omega
    subst e6
    refine o_ef trivial (ef_store S77 1 rfl rfl h rfl rfl rfl (Nat.le_of_ble_eq_true rfl) rfl (fun w h => ?_))
    replace h := Sat.conv (B := pt t (.cells #[.slice a6 (done ++ [k]).length c6] 77)) 1 h rfl (fun _ x => x)
    refine runO_nil (run_inBlock ?_)
    refine run_roundEnd 4 h rfl hk (fun w h => ?_)
    rw [hr.again] at h
    -- round end F0. L ['s', 't', 'own', 'X', 'lp', 'rb']
    exact ⟨rfl, Sat.bring 1 (sbox_close (by rw [scells_snoc]; exact (Sat.out 0 h)))⟩
  · rintro _ w ⟨done, hp, h⟩
    refine ⟨r, _, (by rw [hr.state]; intro e; cases e), Sat.bring 2 h, fun w h => ?_⟩
    rw [hr.pending]
    refine run_inBlock (run_seq ?_)
    obtain ⟨a4, c4, h⟩ := sbox_open (Sat.bring 2 (Sat.bring 1 (Sat.bring 2 (Sat.out 0 h))))
    refine run_region_lit ?_
    refine o_ld rfl (h.at_ 0 rfl) T77 rfl rfl trivial rfl ?_
    refine o_rd (rd_assign rfl) trivial rfl ?_
    refine runO_nil ?_
    refine run_ret1 Tryd.func99 3 h rfl (fun w h => ⟨(RV.tmp rfl RV.nil), ?_⟩)
    -- ret 0 path G0. L ['t', 'own', 'A', 'rb']
    exact ⟨a4, c4, done, rfl, hp, (Sat.out 0 (Sat.out 3 h))⟩

theorem collect {f : Nat} {cap : List Value} {A : Hp} {ks : List ByteArray} {w : World} {R : List Hp} (hs : SeqS Tryd.prog f cap A ks strK) (hf : ∀ (a : Array Value) (w : World), (callFunc f a).run Tryd.prog w = .ok (.enter f a) w) (hlen : ks.length ≤ 1000000) (h : Sat w (A :: R)) :
    FnC Tryd.prog 87 [.func (.func f) #[] cap.toArray] w fun v w' => ∃ a c done, v = .slice a (List.length (α := ByteArray) done) c ∧ done.Perm ks ∧ Sat w' (OwnS 9 1 (.slice a done.length c) (scells done) :: A :: R) := by
  refine fnC_of_run Tryd.func87 rfl Tryd.ntmps87 (Nat.le_of_ble_eq_true rfl) (fun cs => ?_)
  refine run_seq (run_region_lit ?_)
  refine o_rd (rd_assign rfl) trivial rfl ?_
  refine runO_nil (run_seq (run_region_lit ?_))
  refine o_rd (rd_move rfl) trivial rfl ?_
  refine o_ef trivial (ef_call (Tryd.call99) rfl rfl ?_)
  refine FnC.mono (append_seq hs hf hlen h) ?_
  rintro _ w ⟨a, c, done, rfl, hp, h⟩
  refine o_rd (rd_assign rfl) trivial rfl ?_
  refine runO_nil ?_
  refine run_ret Tryd.func87 (RV.tmp rfl RV.nil) ?_
  -- ret 0 path  L ['own', 'A']
  exact ⟨a, c, done, rfl, hp, h⟩

theorem sorted_seq {f : Nat} {cap : List Value} {A : Hp} {ks : List ByteArray} {w : World} {R : List Hp} (hs : SeqS Tryd.prog f cap A ks strK) (hf : ∀ (a : Array Value) (w : World), (callFunc f a).run Tryd.prog w = .ok (.enter f a) w) (hlen : ks.length ≤ 1000000)
    (hS : ∀ (a : Option Addr) (n c : Nat) (ss : List ByteArray) (w : World) (R : List Hp), ss.length ≤ 1000000 → Sat w (OwnS 9 1 (.slice a n c) (scells ss) :: R) → FnC Tryd.prog 88 [.slice a n c] w fun _ w' => Sat w' (OwnS 9 1 (.slice a n c) (scells (sortS ss)) :: R)) (h : Sat w (A :: R)) :
    FnC Tryd.prog 55 [.func (.func f) #[] cap.toArray] w fun v w' => ∃ a c, v = .slice a (sortS ks).length c ∧ Sat w' (OwnS 9 1 (.slice a (sortS ks).length c) (scells (sortS ks)) :: A :: R) := by
  refine fnC_of_run Tryd.func55 rfl Tryd.ntmps55 (Nat.le_of_ble_eq_true rfl) (fun cs => ?_)
  refine run_seq (run_region_lit ?_)
  refine o_rd (rd_assign rfl) trivial rfl ?_
  refine runO_nil (run_seq (run_region_lit ?_))
  refine o_rd (rd_move rfl) trivial rfl ?_
  refine o_ef trivial (ef_call (Tryd.call87) rfl rfl ?_)
  refine FnC.mono (collect hs hf hlen h) ?_
  rintro _ w ⟨a, c, done, rfl, hp, h⟩
  have hdl := hp.length_eq
  refine o_rd (rd_assign rfl) trivial rfl ?_
  refine runO_nil (run_seq (run_region_lit ?_))
  refine o_rd (rd_move rfl) trivial rfl ?_
  refine o_ef trivial (ef_call (Tryd.call88) rfl rfl ?_)
  refine FnC.mono (hS _ _ _ _ _ _ (by omega) h) ?_
  rintro _ w h
  refine runO_nil (run_seq (run_region_lit ?_))
  refine o_rd (rd_move rfl) trivial rfl ?_
  refine o_rd (rd_assign rfl) trivial rfl ?_
  refine runO_nil ?_
  refine run_ret Tryd.func55 (RV.tmp rfl RV.nil) ?_
  -- ret 0 path  L ['own', 'A']
  rw [sortS_perm hp] at h
  have e : done.length = (sortS ks).length := by rw [sortS_len]; exact hdl
  rw [e] at h ⊢
  exact ⟨a, c, rfl, h⟩

theorem disk_Names {b : Nat} {D : DiskV} {w : World} {R : List Hp} (hlen : D.files.length ≤ 256)
    (hS : ∀ (a : Option Addr) (n c : Nat) (ss : List ByteArray) (w : World) (R : List Hp), ss.length ≤ 1000000 → Sat w (OwnS 9 1 (.slice a n c) (scells ss) :: R) → FnC Tryd.prog 88 [.slice a n c] w fun _ w' => Sat w' (OwnS 9 1 (.slice a n c) (scells (sortS ss)) :: R)) (h : Sat w (diskR b D :: R)) :
    FnC Tryd.prog 31 [(.pointer (some ⟨b, 0, none⟩))] w fun v w' => ∃ a c, v = .slice a (sortS (keys D.files)).length c ∧ Sat w' (OwnS 9 1 (.slice a (sortS (keys D.files)).length c) (scells (sortS (keys D.files))) :: diskR b D :: R) := by
  obtain ⟨m, kvs, h⟩ := diskR_open h
  have hks := Sat.vkeys 2 h rfl
  refine fnC_of_run Tryd.func31 rfl Tryd.ntmps31 (Nat.le_of_ble_eq_true rfl) (fun cs => ?_)
  refine run_seq (run_region_lit ?_)
  refine o_rd (rd_assign rfl) trivial rfl ?_
  refine runO_nil (run_seq (run_seq (run_region_lit ?_)))
  refine o_rd (rd_move rfl) trivial rfl ?_
  refine o_rd (rd_eqlP0 T24 rfl rfl) trivial rfl ?_
  refine runO_nil (run_cond_false rfl (run_skip (run_seq (run_region_lit ?_))))
  refine o_rd (rd_move rfl) trivial rfl ?_
  refine o_rd (rd_nil rfl) trivial rfl ?_
  refine o_rd (rd_fieldA F70_0 S68 rfl) trivial rfl ?_
  refine o_ld rfl (h.at_ 0 rfl) T68 rfl rfl trivial rfl ?_
  refine o_ef trivial (ef_call (Tryd.call62) rfl rfl ?_)
  refine FnC.mono (maps_Keys h) ?_
  rintro _ w ⟨bx, rfl, h⟩
  refine o_ef trivial (ef_call (Tryd.call55) rfl rfl ?_)
  refine FnC.mono (sorted_seq (cap := [.pointer (some ⟨bx, 0, none⟩)]) keys_seq Tryd.call91 (by rw [hks, keys_len]; omega) hS (Sat.part (L := [_, _]) (Sat.bring 1 (Sat.bring 2 h)))) ?_
  rintro _ w ⟨a, c, rfl, h⟩
  replace h := (Sat.swap h).join
  rw [hks] at h ⊢
  refine o_rd (rd_assign rfl) trivial rfl ?_
  refine runO_nil ?_
  refine run_ret Tryd.func31 (RV.tmp rfl RV.nil) ?_
  -- ret 0 path  L ['bx', 'm', 'own', 'd', 'vals']
  exact ⟨a, c, rfl, Sat.swap (diskR_close (Sat.bring 3 (Sat.bring 2 (Sat.bring 3 (Sat.bring 1 (Sat.out 0 h))))))⟩

end Go.Proofs.YtmhpgdpegneejaaDoor
