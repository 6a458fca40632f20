/- A part of the proofs about the chapter of the doors; it states no condition of its own. -/
import Derived.Test.YtmagiabapakhcaaB17
set_option linter.unusedVariables false
set_option linter.unusedSimpArgs false
/- A machine on values: ranges over functions, and their rounds. -/
namespace Go.Proofs.Ytmagiabapakhcaa.Vm
open Go

def LoopV.with (L : LoopV) (st : LoopState) (pd : Option Code) : LoopV := { L with st := st, pend := pd }
def Mem.loop (M : Mem) (id : Nat) (L : LoopV) : Mem := { M with H := M.H.set id (.lp L) }

def lw (w : World) (b : Nat) (R : Loop) (st : LoopState) (pd : Option Code) : World := { w with heap := w.heap.setIfInBounds b (.loop { R with state := st, pending := pd }) }
theorem endLoop_run {P : Program} {w : World} {b : Nat} {R : Loop} (h : w.heap[b]? = some (.loop R)) (hb : (R.state == LoopState.busy) = false) : (Instr.endLoop b).run P w = .ok R.pending (lw w b R .exhausted R.pending) := by
  have hb' : R.state ≠ .busy := by intro e; rw [e] at hb; exact absurd hb (by decide)
  simp [Instr.endLoop, Instr.getLoop, getObj, setObj, Sem.run, h, hb']
  rfl
theorem beginRound_run {P : Program} {w : World} {b : Nat} {R : Loop} (h : w.heap[b]? = some (.loop R)) (hb : R.state = .ready) : (Instr.beginRound b).run P w = .ok () (lw w b R .busy R.pending) := by
  simp [Instr.beginRound, Instr.getLoop, getObj, setObj, Sem.run, h, hb]
  rfl
theorem endRound_run {P : Program} {w : World} {b : Nat} {R : Loop} (pd : Option Code) (h : w.heap[b]? = some (.loop R)) : (Instr.endRound b pd).run P w = .ok (.bool pd.isNone) (lw w b R (if pd.isNone then .ready else .done) pd) := by
  simp [Instr.endRound, Instr.getLoop, getObj, setObj, Sem.run, h]
  rfl
section
variable {P : Program} {T : Tab} {G : Ghost} {w : World} {K : Nat → Option Nat} {M : Mem}

theorem step_loop (hI : Inv G w K M) {id b : Nat} {L : LoopV} (hi : M.H[id]? = some (.lp L)) (hb : K id = some b) : ∃ R : Loop, w.heap[b]? = some (.loop R) ∧ R.state = L.st ∧ R.pending = L.pend ∧ R.params.toList = L.params ∧ R.assign = L.assign ∧ R.body = L.body ∧ R.tmps.size = L.nt ∧
    (∀ t, RepV w K M.H (R.tmps.getD t undef) (get L.tm t)) ∧ K L.dfr = some R.defers ∧
    ∀ st pd, Ext w K M.H (lw w b R st pd) K (M.loop id (L.with st pd)).H ∧
      Inv G (lw w b R st pd) K (M.loop id (L.with st pd)) := by
  obtain ⟨b', R, d, e, hh, a1, a2, a3, a4, a5, a6, a7, a8, a9, a10, a11, h3⟩ := hI.obj id _ hi
  rw [hb] at e
  cases e
  subst a10
  refine ⟨R, hh, a1, a2, a4, a5, a6, a11, h3, a7, fun st pd => ?_⟩
  have hset := MapKept.heap_set (o' := .loop { R with state := st, pending := pd }) hh
  refine step_set (w' := lw w b R st pd) hI ⟨rfl, rfl, rfl, by simp [lw]⟩ hi hb (fun _ _ e => by cases e) (fun e => e) (fun e => by cases e) (fun _ _ => ⟨_, rfl⟩) (fun _ _ e => by cases e) (fun b1 _ hne => hset.2 b1 hne) (fun v1 t1 z1 e1 => (by rw [hh] at e1; cases e1)) M.lg
    (fun c hc r hr => hI.cl id _ hi c hc r hr) (fun _ h => h) hI.lg (fun hE => ?_) fun L' e => by cases e; exact hI.lpd id L hi
  have hn8 : ∀ m k, (M.H.set id (.lp (L.with st pd)))[L.dfr]? ≠ some (.clm m k) := fun m k => hE.notClm a9 a8 m k
  exact ⟨b, _, _, rfl, hset.1, rfl, rfl, trivial, a4, a5, a6, a7, hn8, by simpa [LoopV.with] using a9, rfl, a11, fun t => (h3 t).ext hE (cl_get (fun c hc => hI.content hi c hc) t)⟩

/-- a function value that is called, entered -/
theorem enter_fn (hT : TabOk P T) {f : Nat} {fn : Func} {first caps args : List VV} {Q : VV → Mem → Prop} {rf : Value} {rargs : Array Value} (hf : T.fn f = some fn) (h : VC P f ((first ++ args ++ caps).map (sarg T f)) M Q)
    (hI : Inv G w K M) (hrf : RepV w K M.H rf (.fn (.func f) first caps)) (hcf : Cl M.H.length (.fn (.func f) first caps)) (ha : ArgsOk w K M rargs args) :
    ∃ d fargs, (Deferred.ofValue rf rargs : Sem Deferred).run P w = .ok d w ∧ (invoke d.target d.args).run P w = .ok (.enter f fargs) w ∧ CallsIn Fence.wide 0 P f fargs w (Post G w K M Q) := by
  obtain ⟨hfn, hname, hbody⟩ := hT.fn f fn hf
  cases hrf with
  | fn _ us vs _ _ h1 h2 h3 h4 =>
    have hname' : fn.name ≠ "runtime.NumGoroutine" := by simpa using hname
    have hbody' : fn.body ≠ none := by intro h; simp [h] at hbody
    refine ⟨_, us ++ rargs ++ vs, by simp [Deferred.ofValue]; rfl, by simp [invoke, callFunc, program, Sem.run, hfn, hname', hbody'], ?_⟩
    refine h G w K _ hI ⟨?_, fun a hh => ?_⟩
    · have p : PW (RepV w K M.H) (us ++ rargs ++ vs).toList (first ++ args ++ caps) := by
        simp only [Array.toList_append]
        exact ((PW.of_arr h1 h3).append ha.rep).append (PW.of_arr h2 h4)
      refine ⟨by simpa using p.1, fun i a b hx hy => ?_⟩
      rw [List.getElem?_map] at hy
      obtain ⟨c, hc, rfl⟩ := Option.map_eq_some_iff.1 hy
      exact sarg_ok (p.2 i a c hx hc)
    · obtain ⟨c, hc, rfl⟩ := List.mem_map.1 hh
      refine sarg_cl ?_
      rcases List.mem_append.1 hc with hc | hc
      · rcases List.mem_append.1 hc with hc | hc
        · exact fun r hr => hcf r (by simp only [refs, List.mem_append]; exact .inl (mem_refsL.2 ⟨c, hc, hr⟩))
        · exact ha.cl c hc
      · exact fun r hr => hcf r (by simp only [refs, List.mem_append]; exact .inr (mem_refsL.2 ⟨c, hc, hr⟩))

theorem prune_get_all {e : Env} {vs : List Nat} {n : Nat} (h : ∀ t, Cl n (get e t)) : ∀ c ∈ (prune vs e).map (·.2), Cl n c := by
  intro c hc
  simp only [prune, List.map_map, List.mem_map] at hc
  obtain ⟨t, _, rfl⟩ := hc
  exact h t
/-- the record of a range -/
def mkLoop (T : Tab) (cx : Cx) (e : Env) (ps : Array Tmp) (assign body : Code) (dfr : Nat) : LoopV :=
  { fid := cx.fid, round := none, dfr := dfr, nt := cx.nt, tm := prune (T.vars cx.fid) e, params := ps.toList, assign := assign, body := body, st := .ready, pend := none }
def rangeQ (P : Program) (cx : Cx) (e : Env) (id : Nat) (D : List Nat) (Q : PQ) : VV → Mem → Prop := fun _ M => ∃ L, M.H[id]? = some (.lp L) ∧ (L.st == .busy) = false ∧
  match L.pend with
  | none => Q .normal e (M.loop id (L.with .exhausted L.pend)) D
  | some c => WCode P cx c e (M.loop id (L.with .exhausted L.pend)) D Q

theorem new_loop (hI : Inv G w K M) {cx : Cx} {a : Act} {e : Env} (hf : FrOk w K M cx.nt a.tmps e) (fn : FuncId) (ps : Array Tmp) (assign body : Code) {dfr d : Nat} (hd : K dfr = some d) (hdl : dfr < M.H.length) (hdn : ∀ m k, M.H[dfr]? ≠ some (.clm m k)) :
    ∀ w' : World, w' = { w with heap := w.heap.push (.loop { state := .ready, pending := none, fn, tmps := a.tmps, params := ps, assign, body, defers := d }) } →
    Ext w K M.H w' (upd K M.H.length (some w.heap.size)) (M.push (.lp (mkLoop T cx e ps assign body dfr))).H ∧ Inv G w' (upd K M.H.length (some w.heap.size)) (M.push (.lp (mkLoop T cx e ps assign body dfr))) := by
  intro w' hw'
  have hcl : ∀ c ∈ contents (.lp (mkLoop T cx e ps assign body dfr)), Cl M.H.length c := prune_get_all hf.cl
  refine step_new (w' := w') hI ⟨by rw [hw'], by rw [hw'], by rw [hw'], by simp [hw']⟩ (fun b hb => by rw [hw']; show (w.heap.push _)[b]? = _; rw [Array.getElem?_push_lt hb]; simp [hb]) _ (some w.heap.size) (fun b e => by cases e; simp [hw']) (fun c hc => (hcl c hc).mono (Nat.le_succ _)) (fun hE => ?_) fun L e => by cases e; exact hdl
  refine ⟨w.heap.size, _, d, rfl, by rw [hw']; simp; rfl, rfl, rfl, trivial, rfl, rfl, rfl, ?_, fun m k => ?_, (by rw [List.length_append]; exact Nat.lt_add_right _ hdl), rfl, hf.size, fun t => ?_⟩
  · simp only [mkLoop]
    rw [upd_ne _ _ (by omega)]
    exact hd
  · exact hE.notClm hdl hdn m k
  · rcases get_prune (T.vars cx.fid) e t with h | h
    · simp only [mkLoop]
      rw [h]
      exact (hf.rep t).ext hE (hf.cl t)
    · simp only [mkLoop]
      rw [h]
      exact .any _

/-- **a range over a function** -/
theorem range_aux (hT : TabOk P T) {cx : Cx} {e : Env} {D : List Nat} {Q : PQ} {g : Operand} {f : Nat} {fn : Func} {first caps : List VV} {w0 : World} {K0 : Nat → Option Nat} {M0 : Mem} {a : Act} {id b : Nat}
    (hrd : cx.rd.bind K = cx.rd.bind K0) (hg : ev e g = .fn (.func f) first caps) (hf : T.fn f = some fn) (hs : StOk cx G w K M a e D) (hE0 : Ext w0 K0 M0.H w K M.H) {L : LoopV} (hid : M.H[id]? = some (.lp L)) (hK : K id = some b)
    (h : VC P f ((first ++ [VV.yl id] ++ caps).map (sarg T f)) M (rangeQ P cx e id D Q)) :
    ∃ (d : Deferred) (args : Array Value), (resolve a.eval (rangeCall g b) 0).run P w = .ok d w ∧ (invoke d.target d.args).run P w = .ok (.enter f args) w ∧ CallsIn Fence.wide 0 P f args w (rangePost (fence (cx.rd.bind K0)) 0 P b (WPost cx G w0 K0 M0 Q) a) := by
  have hgo := hs.fr.ev g
  rw [hg] at hgo
  have ha : ArgsOk w K M #[.func (.yield b) #[] #[]] [VV.yl id] := by
    refine ⟨⟨rfl, fun i x y hx hy => ?_⟩, fun x hx => ?_⟩
    · cases i with
      | zero =>
        cases hx
        cases hy
        exact .yl id b hK fun m k e => by rw [hid] at e; cases e
      | succ i => simp at hx
    · rw [List.mem_singleton] at hx
      subst hx
      intro r hr
      simp [refs] at hr
      subst hr
      exact (List.getElem?_eq_some_iff.1 hid).1
  obtain ⟨d, fargs, h1, h2, h3⟩ := enter_fn hT hf h hs.inv hgo.1 hgo.2 ha
  refine ⟨d, fargs, ?_, h2, h3.mono ?_⟩
  · simpa [resolve, rangeCall, show a.eval (Operand.const (Value.func (Fn.yield b) #[] #[])) = Value.func (Fn.yield b) #[] #[] from rfl] using h1
  · rintro e' w' ⟨rv, r, K', M', rfl, hq, q1, q2, q3, q4⟩
    obtain ⟨L', hL', hbusy, hq⟩ := hq
    have hb' : K' id = some b := (q3.lp hid).2.trans hK
    obtain ⟨R, r1, r2, r3, r4, r5, r6, r7, r8, r9, r10⟩ := step_loop q4 hL' hb'
    obtain ⟨e1, e2⟩ := r10 .exhausted R.pending
    have hst : (R.state == LoopState.busy) = false := by rw [r2]; exact hbusy
    refine ⟨R.pending, _, endLoop_run r1 hst, ?_⟩
    · rw [r3] at e1 e2 ⊢
      have hE2 := q3.trans e1
      have hs2 : StOk cx G (lw w' b R .exhausted L'.pend) K' (M'.loop id (L'.with .exhausted L'.pend)) a e D :=
        ⟨hs.fr.ext hE2, df_ext hE2 hs.df, e2, (rd_ext hE2 hs.rd).1⟩
      cases hp : L'.pend with
      | none =>
        rw [hp] at hq hs2 hE2
        exact ⟨e, _, K', D, hq, trivial, hs2, hE0.trans hE2⟩
      | some c =>
        rw [hp] at hq hs2 hE2
        have := hq G _ K' a hs2
        rw [(rd_ext hE2 hs.rd).2, hrd] at this
        exact wpIn_mono this fun ex a2 w2 ⟨e2, M2, K2, D2, x1, x2, x3, x4⟩ => ⟨e2, M2, K2, D2, x1, x2, x3, (hE0.trans hE2).trans x4⟩
end
end Go.Proofs.Ytmagiabapakhcaa.Vm
