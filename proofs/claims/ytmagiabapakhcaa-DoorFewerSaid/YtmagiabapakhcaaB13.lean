/- A part of the proofs about the chapter of the doors; it states no condition of its own. -/
import Derived.Test.YtmagiabapakhcaaB12
set_option linter.unusedVariables false
set_option linter.unusedSimpArgs false
/- A machine on values: calls, and regions that have one order. -/
namespace Go.Proofs.Ytmagiabapakhcaa.Vm
open Go

def fence (r : Option Nat) : Fence := { Fence.wide with round := r }
structure FrOk (w : World) (K : Nat → Option Nat) (M : Mem) (nt : Nat) (tmps : Array Value) (e : Env) : Prop where
  size : tmps.size = nt
  rep : ∀ t, RepV w K M.H (tmps.getD t undef) (get e t)
  cl : ∀ t, Cl M.H.length (get e t)
theorem FrOk.ext {w w' : World} {K K' : Nat → Option Nat} {M M' : Mem} {nt : Nat} {tmps : Array Value} {e : Env} (h : FrOk w K M nt tmps e) (he : Ext w K M.H w' K' M'.H) : FrOk w' K' M' nt tmps e :=
  ⟨h.size, fun t => (h.rep t).ext he (h.cl t), fun t => (h.cl t).mono he.len⟩
theorem get_cons (d : Nat) (v : VV) (e : Env) (t : Nat) : get ((d, v) :: e) t = if t = d then v else get e t := by
  simp only [get]
  by_cases h : t = d
  · subst h
    simp
  · have : Nat.beq t d = false := by
      cases hb : Nat.beq t d with
      | false => rfl
      | true => exact absurd (Nat.eq_of_beq_eq_true hb) h
    simp [h, this]
theorem FrOk.put {w : World} {K : Nat → Option Nat} {M : Mem} {nt d : Nat} {tmps : Array Value} {e : Env} {rv : Value} {v : VV} (h : FrOk w K M nt tmps e) (hd : d < nt) (hr : RepV w K M.H rv v) (hc : Cl M.H.length v) :
    FrOk w K M nt (tmps.setIfInBounds d rv) ((d, v) :: e) := by
  refine ⟨by simp [h.size], fun t => ?_, fun t => ?_⟩
  · rw [get_cons]
    by_cases ht : t = d
    · subst ht
      have : t < tmps.size := by rw [h.size]; exact hd
      simpa [Array.getElem?_setIfInBounds_self_of_lt, this] using hr
    · rw [if_neg ht]
      have := h.rep t
      simpa [Array.getElem?_setIfInBounds_ne (Ne.symm ht)] using this
  · rw [get_cons]
    by_cases ht : t = d
    · rw [if_pos ht]; exact hc
    · rw [if_neg ht]; exact h.cl t
theorem FrOk.ev {w : World} {K : Nat → Option Nat} {M : Mem} {nt : Nat} {a : Act} {e : Env} (h : FrOk w K M nt a.tmps e) (x : Operand) : RepV w K M.H (a.eval x) (ev e x) ∧ Cl M.H.length (ev e x) := by
  cases x with
  | tmp t => exact ⟨h.rep t, h.cl t⟩
  | const v => exact ⟨ofValue_ok v, ofValue_cl _ v⟩
  | global g => exact ⟨.any _, cl_any _⟩
  | func f => exact ⟨.fn _ #[] #[] [] [] rfl rfl (by simp) (by simp), fun r hr => by simp [Vm.ev, refs, refsL] at hr⟩

section
variable (P : Program) (T : Tab)

def Post (G : Ghost) (w : World) (K : Nat → Option Nat) (M : Mem) (Q : VV → Mem → Prop) (e : Ending) (w' : World) : Prop :=
  ∃ rv r K' M', e = .returned rv ∧ Q r M' ∧ RepV w' K' M'.H rv r ∧ Cl M'.H.length r ∧ Ext w K M.H w' K' M'.H ∧ Inv G w' K' M'
def Enters (w : World) : Next → (Ending → World → Prop) → Prop
  | .enter f args, R => CallsIn Fence.wide 0 P f args w R
  | .round l f tmps assign body, R => RoundIn Fence.wide 0 P l f tmps assign body w R
  | _, _ => False
/-- the arguments, as they lie -/
structure ArgsOk (w : World) (K : Nat → Option Nat) (M : Mem) (rargs : Array Value) (args : List VV) : Prop where
  rep : PW (RepV w K M.H) rargs.toList args
  cl : ∀ a ∈ args, Cl M.H.length a
/-- a function's contract, on values -/
def VC (f : Nat) (args : List VV) (M : Mem) (Q : VV → Mem → Prop) : Prop :=
  ∀ (G : Ghost) (w : World) (K : Nat → Option Nat) (rargs : Array Value), Inv G w K M → ArgsOk w K M rargs args → CallsIn Fence.wide 0 P f rargs w (Post G w K M Q)
/-- a call of a function value -/
def VCall (fv : VV) (args : List VV) (M : Mem) (Q : VV → Mem → Prop) : Prop :=
  ∀ (G : Ghost) (w : World) (K : Nat → Option Nat) (rf : Value) (rargs : Array Value), Inv G w K M → RepV w K M.H rf fv → Cl M.H.length fv → ArgsOk w K M rargs args →
    ∃ nx, (do let d ← Deferred.ofValue rf rargs; invoke d.target d.args : Sem Next).run P w = .ok nx w ∧ Enters P w nx (Post G w K M Q)

variable {P T}
theorem Post.mono {G : Ghost} {w : World} {K : Nat → Option Nat} {M : Mem} {Q Q' : VV → Mem → Prop} (h : ∀ r M', Q r M' → Q' r M') {e : Ending} {w' : World} (hp : Post G w K M Q e w') : Post G w K M Q' e w' := by
  obtain ⟨rv, r, K', M', h1, h2, h3⟩ := hp
  exact ⟨rv, r, K', M', h1, h _ _ h2, h3⟩
theorem VC.mono {f : Nat} {args : List VV} {M : Mem} {Q Q' : VV → Mem → Prop} (hv : VC P f args M Q) (h : ∀ r M', Q r M' → Q' r M') : VC P f args M Q' :=
  fun G w K rargs hI ha => (hv G w K rargs hI ha).mono fun _ _ => Post.mono h
theorem Enters.mono {w : World} {nx : Next} {R R' : Ending → World → Prop} (h : Enters P w nx R) (hr : ∀ e w', R e w' → R' e w') : Enters P w nx R' := by
  cases nx <;> first | exact CallsIn.mono h hr | exact RoundIn.mono h hr | exact h.elim
theorem VCall.mono {fv : VV} {args : List VV} {M : Mem} {Q Q' : VV → Mem → Prop} (hv : VCall P fv args M Q) (h : ∀ r M', Q r M' → Q' r M') : VCall P fv args M Q' := fun G w K rf rargs hI hf hc ha => by
  obtain ⟨nx, h1, h2⟩ := hv G w K rf rargs hI hf hc ha
  exact ⟨nx, h1, h2.mono fun _ _ => Post.mono h⟩

def sarg (T : Tab) (f : Nat) (v : VV) : VV := bif T.keeps f then v else strip1 v
theorem sarg_ok {w : World} {K : Nat → Option Nat} {H : List VObj} {f : Nat} {v : Value} {x : VV} (h : RepV w K H v x) : RepV w K H v (sarg T f x) := by
  unfold sarg
  cases T.keeps f with
  | true => exact h
  | false => exact strip1_ok h
theorem sarg_cl {n f : Nat} {x : VV} (h : Cl n x) : Cl n (sarg T f x) := by
  unfold sarg
  cases T.keeps f with
  | true => exact h
  | false => exact strip1_cl h
theorem VCall_fn (hT : TabOk P T) {f : Nat} {fn : Func} {first caps args : List VV} {M : Mem} {Q : VV → Mem → Prop} (hf : T.fn f = some fn) (h : VC P f ((first ++ args ++ caps).map (sarg T f)) M Q) : VCall P (.fn (.func f) first caps) args M Q := by
  intro G w K rf rargs hI hrf hcf ha
  obtain ⟨hfn, hname, hbody⟩ := hT.fn f fn hf
  cases hrf with
  | fn _ us vs _ _ h1 h2 h3 h4 =>
    refine ⟨.enter f (us ++ rargs ++ vs), ?_, ?_⟩
    · have hname' : fn.name ≠ "runtime.NumGoroutine" := by simpa using hname
      have hbody' : fn.body ≠ none := by intro h; simp [h] at hbody
      simp [Deferred.ofValue, invoke, callFunc, program, Sem.run, hfn, hname', hbody']
    · refine h G w K _ hI ⟨?_, fun a hh => ?_⟩
      · have p : PW (RepV w K M.H) (us ++ rargs ++ vs).toList (first ++ args ++ caps) := by
          simp only [Array.toList_append]
          exact ((PW.of_arr h1 h3).append ha.rep).append (PW.of_arr h2 h4)
        refine ⟨by simpa using p.1, fun i a b hx hy => ?_⟩
        rw [List.getElem?_map] at hy
        obtain ⟨c, hc, rfl⟩ := Option.map_eq_some_iff.1 hy
        exact sarg_ok (p.2 i a c hx hc)
      · obtain ⟨c, hc, rfl⟩ := List.mem_map.1 hh
        refine sarg_cl ?_
        rcases List.mem_append.1 hc with hc | hc
        · rcases List.mem_append.1 hc with hc | hc
          · exact fun r hr => hcf r (by simp only [refs, List.mem_append]; exact .inl (mem_refsL.2 ⟨c, hc, hr⟩))
          · exact ha.cl c hc
        · exact fun r hr => hcf r (by simp only [refs, List.mem_append]; exact .inr (mem_refsL.2 ⟨c, hc, hr⟩))
end

section
variable (P : Program) (T : Tab)
def vput (nt : Nat) (dst : Option Nat) (v : VV) (e : Env) : Option Env :=
  match dst with
  | none => some e
  | some d => bif Nat.blt d nt then some ((d, v) :: e) else none
def vwanted (all : Array Oper) (o : Oper) (e : Env) : Option Bool :=
  match o.guard with
  | none => some true
  | some (j, want) =>
    match (all[j]?).bind (·.dst) with
    | some d => match get e d with
      | .p (.bool b) => some (b == want)
      | .tup [] => some false
      | _ => none
    | none => none
def WOp (o : Oper) (e : Env) (M : Mem) (Q : VV → Mem → Prop) : Prop :=
  match o.op with
  | .call { callee := .value f, args, .. } => VCall P (ev e f) (args.toList.map (ev e)) M Q
  | op => match vop T op (ev e) M with
    | some (v, M') => Q v M'
    | none => False
def WOps (nt : Nat) (all : Array Oper) : List Oper → Env → Mem → (Env → Mem → Prop) → Prop
  | [], e, M, Kn => Kn e M
  | o :: r, e, M, Kn =>
    match vwanted all o e with
    | none => False
    | some b => (b = true → WOp P T o e M fun v M' => match vput nt o.dst v e with
        | some e' => WOps nt all r e' M' Kn
        | none => False) ∧
      (b = false → match vput nt o.dst (.tup []) e with
        | some e' => WOps nt all r e' M Kn
        | none => False)

variable {P T}
theorem wanted_ok {w : World} {K : Nat → Option Nat} {M : Mem} {nt : Nat} {a : Act} {e : Env} {all : Array Oper} {o : Oper} {b : Bool} (h : FrOk w K M nt a.tmps e) (hw : vwanted all o e = some b) : Region.wanted o (yielded all a.tmps) = b := by
  unfold vwanted at hw
  unfold Region.wanted
  split at hw
  · rename_i hg
    cases hw
    simp [hg]
  · rename_i j want hg
    simp only [hg]
    split at hw
    · rename_i d hd
      have hr := h.rep d
      unfold yielded
      rw [hd]
      simp only [Option.bind_some]
      split at hw
      · rename_i b' hb
        cases hw
        rw [hb] at hr
        have := rep_bool hr
        cases hx : a.tmps[d]? with
        | none => simp [hx, undef] at this
        | some x =>
          simp [hx] at this
          subst this
          simp
      · rename_i hb
        cases hw
        rw [hb] at hr
        generalize hu : a.tmps.getD d undef = u at hr
        cases hr with
        | tup vs _ hs _ =>
          cases hx : a.tmps[d]? with
          | none => simp
          | some x =>
            simp [hx] at hu
            subst hu
            simp
      · cases hw
    · cases hw
theorem put_ok {w : World} {K : Nat → Option Nat} {M : Mem} {nt : Nat} {a : Act} {e e' : Env} {dst : Option Nat} {rv : Value} {v : VV} (h : FrOk w K M nt a.tmps e) (hp : vput nt dst v e = some e') (hr : RepV w K M.H rv v) (hc : Cl M.H.length v) :
    FrOk w K M nt (a.put dst rv).tmps e' ∧ (a.put dst rv).defers = a.defers := by
  unfold vput at hp
  cases dst with
  | none => cases hp; exact ⟨h, rfl⟩
  | some d =>
    simp only at hp
    cases hb : Nat.blt d nt with
    | false => rw [hb] at hp; cases hp
    | true =>
      rw [hb] at hp
      cases hp
      exact ⟨h.put (by simpa [Nat.blt_eq] using hb) hr hc, rfl⟩

/-- an operation, in a frame -/
theorem wop_ok (hT : TabOk P T) {r : Option Nat} {G : Ghost} {w : World} {K : Nat → Option Nat} {M : Mem} {nt : Nat} {a : Act} {e : Env} {o : Oper} {Qv : VV → Mem → Prop} {next : Act → World → Prop} {Q : Exit → Act → World → Prop}
    (hf : FrOk w K M nt a.tmps e) (hI : Inv G w K M) (h : WOp P T o e M Qv)
    (hn : ∀ rv v w' K' M', Qv v M' → RepV w' K' M'.H rv v → Cl M'.H.length v → Ext w K M.H w' K' M'.H → Inv G w' K' M' → next (a.put o.dst rv) w') : o.wpIn (fence r) 0 P a w next Q := by
  refine ⟨fun _ _ => trivial, ?_⟩
  unfold WOp at h
  split at h
  · rename_i f args types hop
    rw [Oper.semAt_eq _ _ _ (fun c hc => by rw [hop] at hc; cases hc)]
    have hrun : (execOp a.eval o).run P w = (do let d ← Deferred.ofValue (a.eval f) (args.map a.eval); invoke d.target d.args : Sem Next).run P w := by
      unfold execOp
      simp only [hop, resolve]
    obtain ⟨nx, h1, h2⟩ := h G w K (a.eval f) (args.map a.eval) hI (hf.ev f).1 (hf.ev f).2 ⟨⟨by simp, fun i x y hx hy => by
      simp only [Array.toList_map, List.getElem?_map] at hx hy
      obtain ⟨z, hz, rfl⟩ := Option.map_eq_some_iff.1 hx
      rw [hz] at hy
      cases hy
      exact (hf.ev z).1⟩, fun x hx => by obtain ⟨z, _, rfl⟩ := List.mem_map.1 hx; exact (hf.ev z).2⟩
    rw [hrun, h1]
    cases nx <;> first | exact h2.elim | skip
    · refine ⟨by simp [fence, Fence.wide], ?_⟩
      refine CallsIn.mono (show CallsIn (fence r) 0 P _ _ w _ from h2) ?_
      rintro e w' ⟨rv, v, K', M', rfl, hq, h3, h4, h5, h6⟩
      exact hn rv v w' K' M' hq h3 h4 h5 h6
    · refine ⟨by simp [fence, Fence.wide], ?_⟩
      refine RoundIn.mono (show RoundIn (fence r) 0 P _ _ _ _ _ w _ from h2) ?_
      rintro e w' ⟨rv, v, K', M', rfl, hq, h3, h4, h5, h6⟩
      exact hn rv v w' K' M' hq h3 h4 h5 h6
  · rename_i hnc
    split at h
    · rename_i v M' hv
      rw [Oper.semAt_eq _ _ _ (fun c hc => by rw [hc] at hv; simp [vop] at hv)]
      obtain ⟨nx, rv, w', K', h1, h2, h3, h4, h5, h6⟩ := vop_ok (o := o) hT hI (fun x => (hf.ev x).1) (fun x => (hf.ev x).2) hv
      rw [h1]
      rcases h2 with rfl | ⟨rfl, rfl⟩
      · exact hn rv v w' K' M' h h3 h4 h5 h6
      · exact hn undef v w' K' M' h h3 h4 h5 h6
    · cases h

theorem wops_ok (hT : TabOk P T) {r : Option Nat} {nt : Nat} {all : Array Oper} {G : Ghost} {Q : Exit → Act → World → Prop} : ∀ (ops : List Oper) (i0 : Nat) (w : World) (K : Nat → Option Nat) (M : Mem) (a : Act) (e : Env) (Kn : Env → Mem → Prop), (∀ j, ops[j]? = all[i0 + j]?) →
    FrOk w K M nt a.tmps e → Inv G w K M → WOps P T nt all ops e M Kn →
    (∀ e' M' a' w' K', Kn e' M' → FrOk w' K' M' nt a'.tmps e' → a'.defers = a.defers → Inv G w' K' M' → Ext w K M.H w' K' M'.H → Q .normal a' w') → wpOpsIn (fence r) 0 P all Q (List.range' i0 ops.length) a w
  | [], i0, w, K, M, a, e, Kn, _, hf, hI, h, hk => hk e M a w K h hf rfl hI (Ext.refl _ _ _)
  | o :: ops, i0, w, K, M, a, e, Kn, hops, hf, hI, h, hk => by
    have ho : all[i0]? = some o := by simpa using (hops 0).symm
    have hrest : ∀ j, ops[j]? = all[i0 + 1 + j]? := fun j => by
      have := hops (j + 1)
      simpa [Nat.add_assoc, Nat.add_comm 1 j] using this
    simp only [WOps] at h
    simp only [List.length_cons, List.range'_succ, wpOpsIn, ho]
    cases hwt : vwanted all o e with
    | none => rw [hwt] at h; cases h
    | some b =>
      rw [hwt] at h
      rw [wanted_ok hf hwt]
      cases b with
      | true =>
        simp only [if_true]
        refine wop_ok hT hf hI (h.1 rfl) fun rv v w' K' M' hq hr hc hE hI' => ?_
        split at hq
        · rename_i e' he'
          obtain ⟨hf', hd⟩ := put_ok (hf.ext hE) he' hr hc
          exact wops_ok hT ops (i0 + 1) w' K' M' _ e' Kn hrest hf' hI' hq fun e2 M2 a2 w2 K2 h1 h2 h3 h4 h5 => hk e2 M2 a2 w2 K2 h1 h2 (h3.trans hd) h4 (hE.trans h5)
        · cases hq
      | false =>
        simp only [Bool.false_eq_true, if_false]
        have h2 := h.2 rfl
        refine ⟨fun _ _ => trivial, ?_⟩
        split at h2
        · rename_i e' he'
          obtain ⟨hf', hd⟩ := put_ok (rv := undef) hf he' undef_rep (undef_cl _)
          exact wops_ok hT ops (i0 + 1) w K M _ e' Kn hrest hf' hI h2 fun e2 M2 a2 w2 K2 h1 h2 h3 h4 h5 => hk e2 M2 a2 w2 K2 h1 h2 (h3.trans hd) h4 h5
        · cases h2
end
end Go.Proofs.Ytmagiabapakhcaa.Vm
