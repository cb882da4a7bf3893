import Derived.Test.YtmhpgdpegneejaaDoorSl8
import Derived.RangeFuncIn
set_option linter.unusedVariables false
set_option linter.unusedSimpArgs false
namespace Go.Proofs.Slx
open Go

/-! ### 23. Ranges over functions -/
structure FitsT (n : Nat) (l : Env) (t : Array Value) : Prop where
  size : t.size = n
  agree : ∀ d v, look d l = some v → t[d]? = some v
theorem FitsT.set {n : Nat} {l : Env} {t : Array Value} (h : FitsT n l t) {d : Nat} (hd : Nat.blt d n = true) (v : Value) : FitsT n ((d, v) :: l) (t.setIfInBounds d v) := by
  have := (Fits.mk (n := n) (l := l) (ds := []) (a := { tmps := t, defers := [] }) h.size h.agree rfl).put hd v
  exact ⟨this.size, this.agree⟩
def setps : List Nat → List Value → Array Value → Array Value
  | p :: ps, v :: vs, t => setps ps vs (t.setIfInBounds p v)
  | _, _, t => t
theorem setps_fold : ∀ (ps : List Nat) (vs : List Value) (t : Array Value), (ps.zip vs).foldl (fun tmps (p : Nat × Value) => tmps.setIfInBounds p.1 p.2) t = setps ps vs t
  | [], _, _ => by simp [setps]
  | _ :: _, [], _ => by simp [setps]
  | p :: ps, v :: vs, t => by simp only [List.zip_cons_cons, List.foldl_cons, setps]; exact setps_fold ps vs _
def bindE : List Nat → List Value → Env → Env
  | p :: ps, v :: vs, l => bindE ps vs ((p, v) :: l)
  | _, _, l => l
def allLt (n : Nat) : List Nat → Bool
  | [] => true
  | p :: ps => Nat.blt p n && allLt n ps
theorem FitsT.bind : ∀ {ps : List Nat} {vs : List Value} {n : Nat} {l : Env} {t : Array Value}, FitsT n l t → allLt n ps = true → FitsT n (bindE ps vs l) (setps ps vs t)
  | [], vs, _, _, _, h, _ => by cases vs <;> exact h
  | _ :: _, [], _, _, _, h, _ => h
  | p :: ps, v :: vs, n, l, t, h, hp => by
    simp only [allLt, Bool.and_eq_true] at hp
    exact FitsT.bind (ps := ps) (vs := vs) (n := n) (l := (p, v) :: l) (t := t.setIfInBounds p v) (h.set hp.1 v) hp.2
/-- A function value is called. -/
def CallV (P : Program) (fv : Value) (vs : List Value) (w : World) (R : Value → World → Prop) : Prop :=
  (∃ f cap, fv = .func (.func f) #[] (List.toArray cap) ∧ (∀ (a : Array Value) (w : World), (callFunc f a).run P w = .ok (.enter f a) w) ∧ FnC P f (vs ++ cap) w R) ∨
  (∃ lp r, fv = .func (.yield lp) #[] #[] ∧ w.heap[lp]? = some (.loop r) ∧ r.params.size = vs.length ∧ RoundC P lp r.fn (setps r.params.toList vs r.tmps) r.assign r.body w R)
theorem CallV.mono {P : Program} {fv : Value} {vs : List Value} {w : World} {R R' : Value → World → Prop} (h : CallV P fv vs w R) (hr : ∀ v w', R v w' → R' v w') : CallV P fv vs w R' := by
  rcases h with ⟨f, cap, e, hf, hc⟩ | ⟨lp, r, e, hb, hs, hc⟩
  · exact .inl ⟨f, cap, e, hf, hc.mono hr⟩
  · exact .inr ⟨lp, r, e, hb, hs, hc.mono hr⟩
section
variable {c : Place} {ds : List Deferred} {l : Env} {w : World} {o : Oper} {K : Env → World → Prop}
theorem OpE.round {d : Nat} {lp f : Nat} {tmps : Array Value} {assign body : Code} {w' : World} (hd : o.dst = some d) (hn : Nat.blt d c.n = true)
    (hop : ∀ ρ : Operand → Value, (∀ x u, ev l x = some u → ρ x = u) → (o.semAt c.ro ρ).run c.P w = .ok (.round lp f tmps assign body) w')
    (hc : RoundC c.P lp f tmps assign body w' fun v w'' => K ((d, v) :: l) w'') (hio : io w' = io w := by rfl) : OpE c ds o l w K := by
  intro hi a hf
  refine .inl ?_
  rw [hop a.eval (fun x u hx => hf.eval hx)]
  simp only [OpUpon, hd]
  exact RoundC.mono' hc fun v w'' e r => ⟨e.trans (hio.trans hi), _, hf.put hn v, r⟩
end
section
variable {c : Place} {ds : List Deferred} {l : Env} {K : Env → World → Prop} {L : List Hp} {w : World} {pos : String} {af : Array Edge} {g : Option (Nat × Bool)} {x y : Operand} {d : Nat} {ty : TypeId}
theorem ef_callFV {args : List Operand} {tys : Array TypeId} {vs : List Value} {fv : Value} (hx : ev l x = some fv) (ha : evs l args = some vs) (hd : Nat.blt d c.n = true)
    (hc : CallV c.P fv vs w fun v w' => K ((d, v) :: l) w') : OpE c ds ⟨some d, .call ⟨.value x, args.toArray, tys⟩, ty, pos, af, g⟩ l w K := by
  rcases hc with ⟨f, cap, rfl, hf, hc⟩ | ⟨lp, r, rfl, hb, hs, hc⟩
  · exact ef_callV hx hf ha hd hc
  · refine OpE.round (w' := w) rfl hd (fun ρ hρ => ?_) hc
    rw [Oper.semAt_eq _ _ _ (by intro c; simp)]
    have h1 := evs_map hρ ha
    have h2 : (getObj lp).run c.P w = .ok (.loop r) w := by simp [getObj, Sem.run, hb]
    have h3 : (r.params.zip vs.toArray).foldl (fun tmps (p : Nat × Value) => tmps.setIfInBounds p.1 p.2) r.tmps = setps r.params.toList vs r.tmps := by
      rw [← Array.foldl_toList, Array.toList_zip]
      exact setps_fold _ _ _
    have hs' : vs.length = r.params.size := hs.symm
    simp [execOp, resolve, hρ _ _ hx, Deferred.ofValue, invoke, h1, Instr.yield, Instr.getLoop, h2, hs']
    rw [show r.params.size = (r.params.zip vs.toArray).size by simp [hs]]
    exact h3
end
/-- A round, out of its body. -/
theorem roundC_of_run {P : Program} {lp f n : Nat} {tmps : Array Value} {assign body : Code} {w : World} {R : Value → World → Prop} {l : Env} (ht : FitsT n l tmps)
    (h : ∀ (F : Machine → Prop) (cf : Frame) (cs : List Frame), (∀ v w', io w' = io w → R v w' → Reach P F (lone (cf.finish v) cs w')) → Run ⟨P, some lp, f, n, cf :: cs, io w, F⟩ [] [.code assign, .beginRound, .code body] l w) :
    RoundC P lp f tmps assign body w R := by
  intro F cf cs hk
  let b : Frame := { (default : Frame) with fn := f, kind := .normal, roundOf := some lp }
  have e : Frame.round lp f tmps assign body .normal = b.atR { tmps := tmps, defers := [] } [.code assign, .beginRound, .code body] := by
    simp [Frame.round, Frame.atR, b]
  rw [e]
  exact h F cf cs hk rfl b _ rfl rfl rfl ⟨ht.size, ht.agree, rfl⟩
theorem setObj_loop {P : Program} {w : World} {lp : Nat} {r : Loop} (hb : w.heap[lp]? = some (.loop r)) (o : Obj) : (setObj lp o).run P w = .ok () { w with heap := w.heap.setIfInBounds lp o } := by
  simp [setObj, Sem.run, hb]
theorem Sat.setLoop {w : World} {L : List Hp} {lp : Nat} {o : Obj} (n : Nat) (h : Sat w L) (hL : L[n]? = some (pt lp o)) (o' : Obj) : Sat { w with heap := w.heap.setIfInBounds lp o' } (L.set n (pt lp o')) := by
  have hb := h.at_ n hL
  have hlt : lp < w.heap.size := (Array.getElem?_eq_some_iff.1 hb).1
  refine h.set n hL (by simp [hlt]) fun i x hi hx => ?_
  simp only [Array.getElem?_setIfInBounds]
  rw [if_neg (by omega)]
  exact hx
section
variable {P : Program} {lp f n : Nat} {cf : Frame} {cs : List Frame} {F : Machine → Prop} {ds : List Deferred} {k : List Item} {l : Env} {w : World} {L : List Hp} {r : Loop} {R : Value → World → Prop} {i0 : Os × Array (Nat × ByteArray)}
theorem run_begin (i : Nat) (h : Sat w L) (hL : L[i]? = some (pt lp (.loop r))) (hr : r.state = .ready) (hk : ∀ w', Sat w' (L.set i (pt lp (.loop { r with state := .busy }))) → Run ⟨P, some lp, f, n, cs, i0, F⟩ ds k l w') :
    Run ⟨P, some lp, f, n, cs, i0, F⟩ ds (.beginRound :: k) l w := by
  intro hi b a h1 h2 h3 hf
  have hb := h.at_ i hL
  have hrun : (Instr.beginRound lp).run P w = .ok () { w with heap := w.heap.setIfInBounds lp (.loop { r with state := .busy }) } := by
    have h2 : (getObj lp).run P w = .ok (.loop r) w := by simp [getObj, Sem.run, hb]
    simp [Instr.beginRound, Instr.getLoop, h2, setObj_loop hb, hr]
  exact (hk _ (h.setLoop i hL _) hi b a h1 h2 h3 hf).step (stepR_beginRound h1 hrun)
theorem run_endRound {jump : Option Code} (hb : w.heap[lp]? = some (.loop r)) : (Instr.endRound lp jump).run P w = .ok (.bool jump.isNone) { w with heap := w.heap.setIfInBounds lp (.loop { r with state := if jump.isNone then .ready else .done, pending := jump }) } := by
  have h2 : (getObj lp).run P w = .ok (.loop r) w := by simp [getObj, Sem.run, hb]
  simp [Instr.endRound, Instr.getLoop, h2, setObj_loop hb]
theorem run_roundEnd (i : Nat) (h : Sat w L) (hL : L[i]? = some (pt lp (.loop r))) (hk : ∀ v w', io w' = i0 → R v w' → Reach P F (lone (cf.finish v) cs w'))
    (hR : ∀ w', Sat w' (L.set i (pt lp (.loop { r with state := .ready, pending := none }))) → R (.bool true) w') : Run ⟨P, some lp, f, n, cf :: cs, i0, F⟩ ds [] l w := by
  intro hi b a h1 h2 h3 hf
  exact (hk _ { w with heap := w.heap.setIfInBounds lp (.loop { r with state := .ready, pending := none }) } hi (hR _ (h.setLoop i hL _))).step (stepR_round_end h1 h3 (run_endRound (jump := none) (h.at_ i hL)))
theorem run_roundExit {id : Nat} (i : Nat) (hx : exitTo id k = none) (h : Sat w L) (hL : L[i]? = some (pt lp (.loop r))) (hk : ∀ v w', io w' = i0 → R v w' → Reach P F (lone (cf.finish v) cs w'))
    (hR : ∀ w', Sat w' (L.set i (pt lp (.loop { r with state := .done, pending := some (.exit id) }))) → R (.bool false) w') : Run ⟨P, some lp, f, n, cf :: cs, i0, F⟩ ds (.code (.exit id) :: k) l w := by
  intro hi b a h1 h2 h3 hf
  exact (hk _ { w with heap := w.heap.setIfInBounds lp (.loop { r with state := .done, pending := some (.exit id) }) } hi (hR _ (h.setLoop i hL _))).step (stepR_round_exit h1 h3 hx (run_endRound (jump := some (.exit id)) (h.at_ i hL)))
end
def mark (rb : Nat) : Deferred := { target := .collected rb, args := #[] }
/-- A loop's record, as the statement lays it. -/
structure LoopIs (r : Loop) (f n : Nat) (l : Env) (ps : Array Tmp) (assign body : Code) : Prop where
  state : r.state = .ready
  pending : r.pending = none
  fn : r.fn = f
  fits : FitsT n l r.tmps
  params : r.params = ps
  assign : r.assign = assign
  body : r.body = body
theorem LoopIs.again {r : Loop} {f n : Nat} {l : Env} {ps : Array Tmp} {assign body : Code} (h : LoopIs r f n l ps assign body) : { ({ r with state := .busy } : Loop) with state := .ready, pending := none } = r := by
  have h1 := h.state
  have h2 := h.pending
  cases r
  simp only at h1 h2
  subst h1 h2
  rfl
theorem callV_round {P : Program} {lp f n : Nat} {r : Loop} {w : World} {R : Value → World → Prop} {l : Env} {ps : Array Tmp} {vs : List Value} {assign body : Code} (hr : LoopIs r f n l ps assign body) (hb : w.heap[lp]? = some (.loop r)) (hs : ps.size = vs.length) (hp : allLt n ps.toList = true)
    (h : ∀ (F : Machine → Prop) (cf : Frame) (cs : List Frame), (∀ v w', io w' = io w → R v w' → Reach P F (lone (cf.finish v) cs w')) → Run ⟨P, some lp, f, n, cf :: cs, io w, F⟩ [] [.code assign, .beginRound, .code body] (bindE ps.toList vs l) w) :
    CallV P (.func (.yield lp) #[] #[]) vs w R := by
  refine .inr ⟨lp, r, rfl, hb, by rw [hr.params]; exact hs, ?_⟩
  rw [hr.fn, hr.params, hr.assign, hr.body]
  exact roundC_of_run (hr.fits.bind hp) h
/-- The statement. -/
theorem run_rangeFunc {P : Program} {f n : Nat} {cs : List Frame} {F : Machine → Prop} {i0 : Os × Array (Nat × ByteArray)} {ds : List Deferred} {k : List Item} {l : Env} {w : World} {L : List Hp} {g : Operand} {ps : Array Tmp} {assign body : Code} {fk : Nat} {cap : List Value}
    (hg : ev l g = some (.func (.func fk) #[] cap.toArray)) (hfk : ∀ (a : Array Value) (w : World), (callFunc fk a).run P w = .ok (.enter fk a) w) (h : Sat w L)
    (hc : ∀ rb lp r w1, LoopIs r f n l ps assign body → Sat w1 (pt lp (.loop r) :: pt rb (.deferred (some [])) :: L) →
      FnC P fk (.func (.yield lp) #[] #[] :: cap) w1 fun _ w2 => ∃ r2 L2, r2.state ≠ .busy ∧ Sat w2 (pt lp (.loop r2) :: L2) ∧
        ∀ w3, Sat w3 (pt lp (.loop { r2 with state := .exhausted }) :: L2) → Run ⟨P, none, f, n, cs, i0, F⟩ (mark rb :: ds) ((r2.pending.map Item.code).toList ++ k) l w3) :
    Run ⟨P, none, f, n, cs, i0, F⟩ ds (.code (.rangeFunc g ps assign body) :: k) l w := by
  intro hi b a h1 h2 h3 hf
  simp only at h1 h2 hf ⊢
  let w0 : World := { w with heap := w.heap.push (.deferred (some [])) }
  let r : Loop := ⟨.ready, none, f, a.tmps, ps, assign, body, w.heap.size⟩
  let w1 : World := { w0 with heap := w0.heap.push (.loop r) }
  have hs0 : Sat w0 (pt w.heap.size (.deferred (some [])) :: L) := h.new _ rfl
  have hs1 : Sat w1 (pt w0.heap.size (.loop r) :: pt w.heap.size (.deferred (some [])) :: L) := hs0.new _ rfl
  have he : (Instr.enterLoop b.fn a.tmps ps assign body b.roundOf).run P w = .ok (w0.heap.size, [mark w.heap.size]) w1 := by
    rw [h1, h2]
    simp [Instr.enterLoop, newObj, Sem.run, mark, w1, w0, r]
  have hev : a.eval g = .func (.func fk) #[] cap.toArray := hf.eval hg
  have hres : (resolve a.eval (rangeCall g w0.heap.size) 0).run P w1 = .ok { target := .fn (.func fk) cap.toArray, args := #[.func (.yield w0.heap.size) #[] #[]] } w1 := by
    have hargs : (#[Operand.const (.func (.yield w0.heap.size) #[] #[])] : Array Operand).map a.eval = #[.func (.yield w0.heap.size) #[] #[]] := by simp [Act.eval]
    simp only [resolve, rangeCall, hargs, hev, Deferred.ofValue]
    simp
  have hinv : (invoke (.fn (.func fk) cap.toArray) #[.func (.yield w0.heap.size) #[] #[]]).run P w1 = .ok (.enter fk (List.toArray (.func (.yield w0.heap.size) #[] #[] :: cap))) w1 := by
    simp [invoke, hfk]
  have henter := stepR_rangeFunc (P := P) (b := b) (a := a) (k := k) (cs := cs) (w := w) he hres hinv
  have hcall := hc w.heap.size w0.heap.size r w1 ⟨rfl, rfl, rfl, ⟨hf.size, hf.agree⟩, rfl, rfl, rfl⟩ hs1
  obtain ⟨e, w2, fr, hR, hsteps, _, hleave⟩ := hcall (b.atR { a with defers := [mark w.heap.size] ++ a.defers } (.inRangeFunc w0.heap.size :: k) :: cs)
  cases e with
  | outgrown => exact hR.elim
  | panicked ch => exact hR.elim
  | returned v =>
    obtain ⟨hi2, r2, L2, hst, hs2, hk⟩ := hR
    have hb2 := hs2.at_ 0 rfl
    have hend : (Instr.endLoop w0.heap.size).run P w2 = .ok r2.pending { w2 with heap := w2.heap.setIfInBounds w0.heap.size (.loop { r2 with state := .exhausted }) } := by
      have h2 : (getObj w0.heap.size).run P w2 = .ok (.loop r2) w2 := by simp only [getObj, Sem.run, hb2]
      have h4 : (r2.state == LoopState.busy) = false := by
        cases hs : r2.state <;> first | rfl | exact absurd hs hst
      simp only [Instr.endLoop, Instr.getLoop, Sem.run_bind, h2, Result.andThen_ok, Sem.run_pure, h4, Bool.false_eq_true, if_false, setObj_loop hb2]
    have hrun := hk _ (hs2.setLoop 0 rfl _) (hi2.trans hi) b { a with defers := [mark w.heap.size] ++ a.defers } h1 h2 h3 ⟨hf.size, hf.agree, by simp [hf.defers]⟩
    refine ((hrun.step (stepR_endRangeFunc hend)).step ?_).steps hsteps |>.step henter
    rw [← finish_atR_inRangeFunc w0.heap.size v]
    exact step_leave_returned hleave
/-- A return where a range over a function lies behind. -/
theorem run_unmark {P : Program} {i0 : Os × Array (Nat × ByteArray)} {f n : Nat} {cs : List Frame} {R : Value → World → Prop} {fn : Func} {rb : Nat} {l : Env} {w : World} {vs : List Value} {L : List Hp} (hio : io w = i0) (hf : P.funcs[f]? = some fn) (i : Nat) (h : Sat w L) (hL : L[i]? = some (pt rb (.deferred (some []))))
    (hr : ∀ w', Sat w' (L.set i (pt rb (.deferred none))) → RV P w' l fn.results.toList vs ∧ R (retVal vs) w') {b : Frame} {a : Act} (h2 : b.fn = f) (h3 : b.kind = .normal) (hfit : Fits n l [mark rb] a) {todo : List Item} :
    Reach P (RetF P f cs i0 R) (lone { b.atR a todo with mode := .returning } cs w) := by
  have hb := h.at_ i hL
  have ht : (Instr.takeDeferred rb).run P w = .ok [] { w with heap := w.heap.setIfInBounds rb (.deferred none) } := by
    simp [Instr.takeDeferred, getObj, setObj, Sem.run, hb]
  obtain ⟨hv, hR⟩ := hr _ (h.setLoop i hL _)
  have hfit' : Fits n l [] { a with defers := [] } := ⟨hfit.size, hfit.agree, rfl⟩
  refine (Reach.now (leave_now (w := { w with heap := w.heap.setIfInBounds rb (.deferred none) }) hio hf hv hR h2 h3 hfit' (todo := todo))).step ?_
  exact step_lone_go (by
    have hd : a.defers = [mark rb] := hfit.defers
    simp [stepG, unwind, Frame.atR, hd, mark, Sem.runT_eq, ht, GStep.bare_after])
section
variable {P : Program} {f n : Nat} {cs : List Frame} {R : Value → World → Prop} {fn : Func} {rb : Nat} {k : List Item} {l : Env} {w : World} {vs : List Value} {L : List Hp} {i0 : Os × Array (Nat × ByteArray)}
theorem run_ret1 (hf : P.funcs[f]? = some fn) (i : Nat) (h : Sat w L) (hL : L[i]? = some (pt rb (.deferred (some [])))) (hr : ∀ w', Sat w' (L.set i (pt rb (.deferred none))) → RV P w' l fn.results.toList vs ∧ R (retVal vs) w') :
    Run ⟨P, none, f, n, cs, i0, RetF P f cs i0 R⟩ [mark rb] (.code .ret :: k) l w :=
  fun hi b a h1 h2 h3 hfit => (run_unmark hi hf i h hL hr h2 h3 hfit).step (stepR_ret h1)
theorem run_end1 (hf : P.funcs[f]? = some fn) (i : Nat) (h : Sat w L) (hL : L[i]? = some (pt rb (.deferred (some [])))) (hr : ∀ w', Sat w' (L.set i (pt rb (.deferred none))) → RV P w' l fn.results.toList vs ∧ R (retVal vs) w') :
    Run ⟨P, none, f, n, cs, i0, RetF P f cs i0 R⟩ [mark rb] [] l w :=
  fun hi b a h1 h2 h3 hfit => (run_unmark hi hf i h hL hr h2 h3 hfit).step (stepR_end h1)
end
/-- What a function that is ranged over hands out: these, each once, in whatever order. -/
def SeqS {κ : Type} (P : Program) (f : Nat) (cap : List Value) (A : Hp) (ks : List κ) (enc : κ → Value) : Prop :=
  ∀ (fv : Value) (Rf : List κ → List Hp) (w : World),
    (∀ (done : List κ) (k : κ) (X : Hp) (w : World), (∃ rest, (done ++ k :: rest).Perm ks) → Sat w (X :: Rf done) → CallV P fv [enc k] w fun v w' => v = .bool true ∧ Sat w' (X :: Rf (done ++ [k]))) →
    Sat w (A :: Rf []) → FnC P f (fv :: cap) w fun _ w' => ∃ done : List κ, done.Perm ks ∧ Sat w' (A :: Rf done)
end Go.Proofs.Slx
