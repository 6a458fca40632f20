/- A part of the proofs about the chapter of the doors; it states no condition of its own. -/
import Derived.Test.YtmagiabapakhcaaB19
set_option linter.unusedVariables false
set_option linter.unusedSimpArgs false
/- A machine on values: yield. -/
namespace Go.Proofs.Ytmagiabapakhcaa.Vm
open Go

def vputs (nt : Nat) : List Nat → List VV → Env → Option Env
  | [], [], e => some e
  | p :: ps, v :: vs, e => bif Nat.blt p nt then vputs nt ps vs ((p, v) :: e) else none
  | _, _, _ => none
/-- what is asked of a round -/
def endQ (id : Nat) (Q : VV → Mem → Prop) : PQ := fun ex _ M _ => ∃ L, M.H[id]? = some (.lp L) ∧
  match ex with
  | .normal => Q (.p (.bool true)) (M.loop id (L.with .ready none))
  | .ret => Q (.p (.bool false)) (M.loop id (L.with .done (some .ret)))
  | .exit j => Q (.p (.bool false)) (M.loop id (L.with .done (some (.exit j))))
  | _ => False
def roundQ (P : Program) (cx : Cx) (id : Nat) (body : Code) (Q : VV → Mem → Prop) : PQ := fun ex e M D => ∃ L, M.H[id]? = some (.lp L) ∧ L.st = .ready ∧
  match ex with
  | .normal => WCode P cx body e (M.loop id (L.with .busy L.pend)) D (endQ id Q)
  | _ => False

section
variable {P : Program} {T : Tab} {G : Ghost} {w : World} {K : Nat → Option Nat} {M : Mem}
theorem vputs_ok {nt : Nat} : ∀ {ps : List Nat} {rvs : List Value} {vs : List VV} {e e' : Env} {tmps : Array Value}, FrOk w K M nt tmps e → PW (RepV w K M.H) rvs vs → (∀ v ∈ vs, Cl M.H.length v) → vputs nt ps vs e = some e' →
    ps.length = rvs.length ∧ FrOk w K M nt ((ps.zip rvs).foldl (fun tmps (p : Nat × Value) => tmps.setIfInBounds p.1 p.2) tmps) e'
  | [], [], [], e, e', tmps, hf, _, _, h => by cases h; exact ⟨rfl, hf⟩
  | p :: ps, rv :: rvs, v :: vs, e, e', tmps, hf, hp, hc, h => by
    simp only [vputs] at h
    cases hb : Nat.blt p nt with
    | false => rw [hb] at h; cases h
    | true =>
      rw [hb] at h
      obtain ⟨h1, h2⟩ := vputs_ok (hf.put (by simpa [Nat.blt_eq] using hb) (hp.2 0 rv v rfl rfl) (hc v (by simp))) ⟨by simpa using hp.1, fun i a b ha hb => hp.2 (i + 1) a b (by simpa using ha) (by simpa using hb)⟩ (fun x hx => hc x (by simp [hx])) h
      exact ⟨by simp [h1], by simpa using h2⟩
  | [], [], _ :: _, _, _, _, _, hp, _, _ => absurd hp.1 (by simp)
  | [], _ :: _, [], _, _, _, _, hp, _, _ => absurd hp.1 (by simp)
  | [], _ :: _, _ :: _, _, _, _, _, _, _, h => by simp [vputs] at h
  | _ :: _, [], [], _, _, _, _, _, _, h => by simp [vputs] at h
  | _ :: _, [], _ :: _, _, _, _, _, hp, _, _ => absurd hp.1 (by simp)
  | _ :: _, _ :: _, [], _, _, _, _, _, _, h => by simp [vputs] at h

/-- **yield** -/
theorem V_yield {id : Nat} {args : List VV} {Q : VV → Mem → Prop} {L : LoopV} {e0 : Env} (hL : M.H[id]? = some (.lp L)) (he : vputs L.nt L.params args L.tm = some e0)
    (h : WCode P ⟨L.fid, some id, L.nt⟩ L.assign e0 M [] (roundQ P ⟨L.fid, some id, L.nt⟩ id L.body Q)) : VCall P (.yl id) args M Q := by
  intro G w K rf rargs hI hrf hcf ha
  cases hrf with
  | yl _ b hb _ =>
    obtain ⟨R, r1, r2, r3, r4, r5, r6, r7, r8, r9, r10⟩ := step_loop hI hL hb
    have hfr : FrOk w K M L.nt R.tmps L.tm := ⟨r7, r8, fun t => cl_get (fun c hc => hI.content hL c hc) t⟩
    obtain ⟨hsz, hf0⟩ := vputs_ok hfr ha.rep ha.cl he
    have hsz' : rargs.size = R.params.size := by rw [← r4] at hsz; simpa using hsz.symm
    have htm : (R.params.zip rargs).foldl (fun tmps (x : Nat × Value) => tmps.setIfInBounds x.1 x.2) R.tmps = (L.params.zip rargs.toList).foldl (fun tmps (p : Nat × Value) => tmps.setIfInBounds p.1 p.2) R.tmps := by
      rw [← r4, ← Array.foldl_toList, Array.toList_zip]
    refine ⟨.round b R.fn ((R.params.zip rargs).foldl (fun tmps (x : Nat × Value) => tmps.setIfInBounds x.1 x.2) R.tmps) R.assign R.body, ?_, ?_⟩
    · simp [Deferred.ofValue, invoke, Instr.yield, Instr.getLoop, getObj, Sem.run, r1, hsz']
    · have hs : StOk ⟨L.fid, some id, L.nt⟩ G w K M { tmps := (R.params.zip rargs).foldl (fun tmps (x : Nat × Value) => tmps.setIfInBounds x.1 x.2) R.tmps, defers := [] } e0 [] :=
        ⟨by rw [htm]; exact hf0, ⟨rfl, fun i a b ha => by simp at ha⟩, hI, fun id' e => by cases e; exact ⟨L, hL⟩⟩
      have h1 := h G w K _ hs
      rw [show (some id).bind K = some b from hb] at h1
      rw [r5, r6]
      refine roundIn_of_wpIn trivial (wpIn_mono h1 ?_)
      rintro ex a' w' ⟨e', M', K', D', q1, q2, q3, q4⟩
      obtain ⟨L1, hL1, hst, q1⟩ := q1
      have hb1 : K' id = some b := (q4.lp hL).2.trans hb
      obtain ⟨R1, s1, s2, s3, s4, s5, s6, s7, s8, s9, s10⟩ := step_loop q3.inv hL1 hb1
      cases ex with
      | normal =>
        refine ⟨_, beginRound_run s1 (s2.trans hst), ?_⟩
        obtain ⟨x1, x2⟩ := s10 .busy R1.pending
        rw [s3] at x1 x2 ⊢
        have hs2 : StOk ⟨L.fid, some id, L.nt⟩ G (lw w' b R1 .busy L1.pend) K' (M'.loop id (L1.with .busy L1.pend)) a' e' D' := ⟨q3.fr.ext x1, df_ext x1 q3.df, x2, (rd_ext x1 q3.rd).1⟩
        have h2 := q1 G _ K' a' hs2
        rw [show (some id).bind K' = some b from hb1] at h2
        refine wpIn_mono h2 ?_
        rintro ex2 a2 w2 ⟨e2, M2, K2, D2, y1, y2, y3, y4⟩
        obtain ⟨L2, hL2, y1⟩ := y1
        have hb2 : K2 id = some b := (y4.lp (show (M'.loop id (L1.with .busy L1.pend)).H[id]? = some (.lp (L1.with .busy L1.pend)) by simp [Mem.loop, (List.getElem?_eq_some_iff.1 hL1).1])).2.trans hb1
        obtain ⟨R2, t1, _, _, _, _, _, _, _, _, t10⟩ := step_loop y3.inv hL2 hb2
        have hrep : ∀ (x : Bool) (H : List VObj) (w3 : World), RepV w3 K2 H (.bool x) (.p (.bool x)) := fun x H w3 => .p _ _ (.bool x)
        have fin : ∀ (st : LoopState) (pd : Option Code), (if pd.isNone then LoopState.ready else LoopState.done) = st → ∀ (x : Bool), pd.isNone = x → Q (.p (.bool x)) (M2.loop id (L2.with st pd)) →
            ∃ v w', (Instr.endRound b pd).run P w2 = .ok v w' ∧ Post G w K M Q (.returned v) w' := by
          intro st pd hst2 x hx hq
          refine ⟨.bool pd.isNone, _, endRound_run pd t1, ?_⟩
          rw [hst2, hx]
          obtain ⟨z1, z2⟩ := t10 st pd
          exact ⟨.bool x, _, K2, _, rfl, hq, hrep _ _ _, fun r hr => by simp [refs] at hr, (q4.trans x1).trans (y4.trans z1), z2⟩
        cases ex2 with
        | normal => exact fin .ready none rfl true rfl y1
        | ret => exact fin .done (some .ret) rfl false rfl y1
        | exit j => exact fin .done (some (.exit j)) rfl false rfl y1
        | _ => exact y2.elim
      | ret => exact q1.elim
      | exit j => exact q1.elim
      | _ => exact q2.elim
end
end Go.Proofs.Ytmagiabapakhcaa.Vm
