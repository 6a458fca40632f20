/- A part of the proofs about the chapter of the doors; it states no condition of its own. -/
import Derived.Test.YtmagiabapakhcaaB16
set_option linter.unusedVariables false
set_option linter.unusedSimpArgs false
/- A machine on values: a function's contract from its body, and the parts of a frame. -/
namespace Go.Proofs.Ytmagiabapakhcaa.Vm
open Go

section
variable {P : Program} {T : Tab} {G : Ghost} {w : World} {K : Nat → Option Nat} {M : Mem}

theorem run_bind_ok {α β : Type} {x : Sem α} {f : α → Sem β} {v : α} {w w' : World} (h : x.run P w = .ok v w') : (x >>= f).run P w = (f v).run P w' := by
  simp [Sem.run_bind, h]
theorem resL_ok (hT : TabOk P T) (hI : Inv G w K M) {nt : Nat} {tmps : Array Value} {e : Env} (hf : FrOk w K M nt tmps e) (f : ResultVar → Sem Value) (f1 : ∀ t, f (.tmp t) = pure (tmps.getD t undef)) (f2 : ∀ a t, f (.cell a t) = (do loadVar t (← asAddr (tmps.getD a undef)))) : ∀ (l : List ResultVar) (vs : List VV), vresL T e M l = some vs →
    ∃ rvs, (l.mapM f).run P w = .ok rvs w ∧ PW (RepV w K M.H) rvs vs ∧ ∀ v ∈ vs, Cl M.H.length v
  | [], vs, h => by
    cases h
    exact ⟨[], by simp, ⟨rfl, fun i a b ha => by simp at ha⟩, by simp⟩
  | x :: l, vs, h => by
    cases x with
    | tmp t =>
      simp only [vresL] at h
      split at h
      · rename_i vs' hvs
        cases h
        obtain ⟨rvs, h1, h2, h3⟩ := resL_ok hT hI hf f f1 f2 l vs' hvs
        refine ⟨tmps.getD t undef :: rvs, ?_, ⟨by simp [h2.1], fun i a b ha hb => ?_⟩, fun v hv => ?_⟩
        · rw [List.mapM_cons]
          rw [f1, pure_bind, run_bind_ok h1]
          rfl
        · cases i with
          | zero => cases ha; cases hb; exact hf.rep t
          | succ i => exact h2.2 i a b (by simpa using ha) (by simpa using hb)
        · rcases List.mem_cons.1 hv with rfl | hv
          · exact hf.cl t
          · exact h3 v hv
      · cases h
    | cell a t =>
      simp only [vresL] at h
      split at h
      · rename_i v vs' hv hvs
        cases h
        obtain ⟨rvs, h1, h2, h3⟩ := resL_ok hT hI hf f f1 f2 l vs' hvs
        obtain ⟨rv, h4, h5, h6⟩ := vload_ok hT hI hv (hf.rep a) (hf.cl a)
        have h7 : (do loadVar t (← asAddr (tmps.getD a undef)) : Sem Value).run P w = .ok rv w := by
          generalize tmps.getD a undef = u at h4
          unfold Instr.loadAt at h4
          cases u with
          | pointer p =>
            cases p with
            | none => simp [Instr.sureAddr] at h4
            | some p => exact h4
          | _ => simp [Instr.sureAddr] at h4
        refine ⟨rv :: rvs, ?_, ⟨by simp [h2.1], fun i a b ha hb => ?_⟩, fun v' hv' => ?_⟩
        · rw [List.mapM_cons]
          rw [f2, run_bind_ok h7, run_bind_ok h1]
          rfl
        · cases i with
          | zero => cases ha; cases hb; exact h5
          | succ i => exact h2.2 i a b (by simpa using ha) (by simpa using hb)
        · rcases List.mem_cons.1 hv' with rfl | hv'
          · exact h6
          · exact h3 v' hv'
      · cases h
theorem results_ok (hT : TabOk P T) (hI : Inv G w K M) {nt : Nat} {fn : Func} {tmps : Array Value} {e : Env} {vs : List VV} (hf : FrOk w K M nt tmps e) (h : vresL T e M fn.results.toList = some vs) :
    ∃ rv, (results fn tmps).run P w = .ok rv w ∧ RepV w K M.H rv (vtup vs) ∧ Cl M.H.length (vtup vs) := by
  obtain ⟨rvs, h1, h2, h3⟩ := resL_ok hT hI hf (fun x => match x with
    | .tmp t => pure (tmps.getD t undef)
    | .cell a t => do loadVar t (← asAddr (tmps.getD a undef))) (fun _ => rfl) (fun _ _ => rfl) _ vs h
  unfold results
  rw [Array.mapM_eq_mapM_toList]
  refine ⟨if h : rvs.toArray.size = 1 then rvs.toArray[0] else .tuple rvs.toArray, ?_, ?_⟩
  · rw [map_eq_pure_bind, bind_assoc]
    exact run_bind_ok h1
  · match rvs, vs, h2, h3 with
    | [], [], h2, h3 => exact ⟨.tup _ _ rfl (by simp), fun r hr => by simp [vtup, refs, refsL] at hr⟩
    | [a], [b], h2, h3 => exact ⟨h2.2 0 a b rfl rfl, h3 b (by simp)⟩
    | a :: b :: l, c :: d :: l', h2, h3 =>
      rw [dif_neg (by simp)]
      exact ⟨.tup _ _ (by simpa using h2.1) fun i v x hv hx => h2.2 i v x (by simpa using hv) hx, fun r hr => by
        rw [show vtup (c :: d :: l') = .tup (c :: d :: l') from rfl, refs] at hr
        obtain ⟨x, hx, hr⟩ := mem_refsL.1 hr
        exact h3 x hx r hr⟩
    | [], _ :: _, h2, _ => exact absurd h2.1 (by simp)
    | _ :: _, [], h2, _ => exact absurd h2.1 (by simp)
    | [_], _ :: _ :: _, h2, _ => exact absurd h2.1 (by simp)
    | _ :: _ :: _, [_], h2, _ => exact absurd h2.1 (by simp)

/-- what a function leaves, and yields -/
def retQ (T : Tab) (f n0 : Nat) (fn : Func) (Q : VV → Mem → Prop) : PQ := fun ex e M D =>
  match ex with
  | .normal | .ret => match vkill n0 D M.H with
    | some H => match vresL T e { M with H := H } fn.results.toList with
      | some vs => Q (vfinish T f n0 (vtup vs) { M with H := H }).1 (vfinish T f n0 (vtup vs) { M with H := H }).2
      | none => False
    | none => False
  | _ => False

theorem Keep.refl (p : Nat → Prop) (H : List VObj) : Keep p w K H w K H := ⟨Szp.refl _, fun _ _ _ h => ⟨h, rfl⟩, fun _ _ h => ⟨fun _ h => h, h⟩, fun _ m k _ h => ⟨m, h, Nat.le_refl _, fun _ => ⟨rfl, fun _ _ => rfl⟩⟩⟩
theorem Keep.trans {p : Nat → Prop} {w w' w'' : World} {K K' K'' : Nat → Option Nat} {H H' H'' : List VObj} (h : Keep p w K H w' K' H') (hs : w.heap.size ≤ w'.heap.size) (h' : Keep p w' K' H' w'' K'' H'') : Keep p w K H w'' K'' H'' := by
  refine ⟨h.sz.trans h'.sz, fun b o hb hi => ?_, fun i hp hn => ?_, fun i m k hp hm => ?_⟩
  · obtain ⟨a1, a2⟩ := h.mem b o hb hi
    obtain ⟨b1, b2⟩ := h'.mem b o (Nat.lt_of_lt_of_le hb hs) a1
    exact ⟨b1, b2.trans a2⟩
  · obtain ⟨a1, a2⟩ := h.key i hp hn
    obtain ⟨b1, b2⟩ := h'.key i hp a2
    exact ⟨fun b h => b1 b (a1 b h), b2⟩
  · obtain ⟨m1, b1, b2, b3⟩ := h'.tok i m k hp hm
    obtain ⟨m0, a1, a2, a3⟩ := h.tok i m1 k hp b1
    refine ⟨m0, a1, by omega, fun e => ?_⟩
    obtain ⟨c1, c2⟩ := b3 (by omega)
    obtain ⟨d1, d2⟩ := a3 (by omega)
    exact ⟨c1.trans d1, fun b hb => (c2 b (d1.trans hb)).trans (d2 b hb)⟩
/-- the marks of ranges, one after the other -/
theorem kills {fn : Func} {tmps : Array Value} {R : Ending → World → Prop} {n0 : Nat} : ∀ (ds : List Deferred) (D : List Nat) (w : World) (M : Mem) (H : List VObj), PW (fun (d : Deferred) (id : Nat) => ∃ b, K id = some b ∧ d = { target := .collected b, args := #[] }) ds D →
    Inv G w K M → vkill n0 D M.H = some H →
    (∀ w', Inv G w' K { M with H := H } → Keep (fun _ => True) w K M.H w' K H → w.heap.size ≤ w'.heap.size → M.H.length = H.length → (∀ i, i < n0 → H[i]? = M.H[i]? ∧ (M.H[i]? ≠ some .gone → ∀ b, i < M.H.length → K i = some b → w'.heap[b]? = w.heap[b]?)) → LeavesInM Fence.wide 0 P fn tmps R [] .returning w') → LeavesInM Fence.wide 0 P fn tmps R ds .returning w
  | [], [], w, M, H, _, hI, hk, hl => by
    cases hk
    exact hl w hI (Keep.refl _ _) (Nat.le_refl _) rfl fun i _ => ⟨rfl, fun _ _ _ _ => rfl⟩
  | d :: ds, id :: D, w, M, H, hp, hI, hk, hl => by
    obtain ⟨b, hb, rfl⟩ := hp.2 0 d id rfl rfl
    simp only [vkill] at hk
    cases hle : Nat.ble n0 id with
    | false => rw [hle] at hk; cases hk
    | true =>
      rw [hle] at hk
      simp only [cond_true] at hk
      split at hk
      case h_2 => cases hk
      rename_i hd
      have hle' : n0 ≤ id := by simpa [Nat.ble_eq] using hle
      obtain ⟨h1, h2, h3, h4⟩ := step_kill (P := P) hI hd hb
      refine ⟨by simp, .inl ⟨b, _, rfl, h1, ?_⟩⟩
      refine kills ds D _ { M with H := M.H.set id .dead } H ⟨by have := hp.1; simpa using this, fun i a id' ha hid => hp.2 (i + 1) a id' (by simpa using ha) (by simpa using hid)⟩ h3 hk fun w' q1 q2 q3 q4 q5 => ?_
      · have hsz : w.heap.size ≤ ({ w with heap := w.heap.setIfInBounds b (.deferred none) } : World).heap.size := by simp
        refine hl w' q1 (h2.trans hsz q2) (Nat.le_trans hsz q3) (by simpa using q4) fun i hi => ?_
        obtain ⟨e1, e2⟩ := q5 i hi
        have hne : id ≠ i := by omega
        refine ⟨e1.trans (by simp [List.getElem?_set_ne hne]), fun hg b' hil hb' => (e2 (by simpa [List.getElem?_set_ne hne] using hg) b' (by simpa using hil) hb').trans (h4 b' fun e => ?_)⟩
        subst e
        exact hne (hI.inj id i b' (List.getElem?_eq_some_iff.1 hd).1 hil (by rw [hd]; simp) hg hb hb')
  | [], _ :: _, _, _, _, hp, _, _, _ => absurd hp.1 (by simp)
  | _ :: _, [], _, _, _, hp, _, _, _ => absurd hp.1 (by simp)

theorem zipEnv_get : ∀ (args : List VV) (i t : Nat), get (zipEnv i args) t = if i ≤ t then (args[t - i]?).getD .any else .any
  | [], i, t => by simp [zipEnv, get]
  | v :: vs, i, t => by
    rw [zipEnv, get_cons, zipEnv_get vs]
    by_cases h : t = i
    · subst h; simp
    · rw [if_neg h]
      by_cases h' : i ≤ t
      · rw [if_pos h', if_pos (by omega : i + 1 ≤ t), show t - i = (t - (i + 1)) + 1 by omega, List.getElem?_cons_succ]
      · rw [if_neg h', if_neg (by omega)]

theorem finish_ok {n0 f : Nat} {w0 : World} {K0 : Nat → Option Nat} {H0 : List VObj} {rv : Value} {r : VV} (hl : H0.length = n0) (he : Ext w0 K0 H0 w K M.H) (hI : Inv G w K M) (hr : RepV w K M.H rv r) (hc : Cl M.H.length r) :
    RepV w K (vfinish T f n0 r M).2.H rv (vfinish T f n0 r M).1 ∧ Cl (vfinish T f n0 r M).2.H.length (vfinish T f n0 r M).1 ∧ Ext w0 K0 H0 w K (vfinish T f n0 r M).2.H ∧ Inv G w K (vfinish T f n0 r M).2 := by
  have hn : n0 ≤ M.H.length := hl ▸ he.len
  unfold vfinish
  cases T.keeps f with
  | true => exact ⟨hr, hc, he, hI⟩
  | false =>
    simp only [cond_false]
    cases hb : (M.lg.filter fun e => Nat.blt e.1 n0).all (fun e => Nat.blt e.2 n0) && (refs (frz n0 M.H r)).all (Nat.blt · n0) with
    | true =>
      simp only [cond_true]
      simp only [Bool.and_eq_true, List.all_eq_true, Nat.blt_eq, List.mem_filter] at hb
      obtain ⟨h1, h2⟩ := hb
      refine ⟨frz_ok hI hn hr hr h2, fun q hq => ?_, ?_, ?_⟩
      · have := h2 q hq
        simp only [List.length_take]
        omega
      · refine he.keep (keep_take n0) (Nat.le_refl _) fun i hi => ⟨?_, rfl, fun _ _ _ => rfl⟩
        rw [List.getElem?_take_of_lt (by omega)]
      · refine inv_take hI hn (fun e he1 he2 => ⟨h1 e ⟨he1, he2⟩, ?_⟩) fun e he1 => ?_
        · simp only [List.mem_filter, Nat.blt_eq]
          exact ⟨he1, he2⟩
        · simp only [List.mem_filter, Nat.blt_eq] at he1
          exact ⟨he1.2, h1 e he1⟩
    | false => exact ⟨hr, hc, he, hI⟩

/-- **a function's contract from its body** -/
theorem VC_fn (hT : TabOk P T) {f : Nat} {fn : Func} {c : Code} {args : List VV} {Q : VV → Mem → Prop} (hf : T.fn f = some fn) (hb : fn.body = some c) (hn : args.length ≤ fn.ntmps)
    (h : (∀ e ∈ M.lg, e.1 < M.H.length ∧ e.2 < M.H.length) → WCode P ⟨f, none, fn.ntmps⟩ c (zipEnv 0 args) M [] (retQ T f M.H.length fn Q)) : VC P f args M Q := by
  intro G w K rargs hI ha
  refine callsIn_of_wp_marks (hT.fn f fn hf).1 hb trivial ?_ rfl
  have hsz : rargs.size = args.length := by simpa using ha.rep.1
  have hs : StOk ⟨f, none, fn.ntmps⟩ G w K M { tmps := rargs ++ Array.replicate (fn.ntmps - rargs.size) undef, defers := [] } (zipEnv 0 args) [] := by
    refine ⟨⟨by simp; omega, fun t => ?_, fun t => ?_⟩, ⟨rfl, fun i a b ha => by simp at ha⟩, hI, fun id hid => by cases hid⟩
    · rw [zipEnv_get, if_pos (Nat.zero_le _)]
      simp only [Nat.sub_zero]
      rcases Nat.lt_or_ge t args.length with hlt | hge
      · have e1 : args[t]? = some args[t] := List.getElem?_eq_getElem hlt
        have e2 : rargs[t]? = some (rargs[t]'(by omega)) := Array.getElem?_eq_getElem (by omega)
        rw [e1, Array.getD_eq_getD_getElem?, Array.getElem?_append_left (by omega), e2]
        exact ha.rep.2 t _ _ (by rw [Array.getElem?_toList]; exact e2) e1
      · rw [List.getElem?_eq_none hge]
        exact .any _
    · rw [zipEnv_get, if_pos (Nat.zero_le _)]
      simp only [Nat.sub_zero]
      rcases Nat.lt_or_ge t args.length with hlt | hge
      · rw [List.getElem?_eq_getElem hlt]
        exact ha.cl _ (List.getElem_mem _)
      · rw [List.getElem?_eq_none hge]
        exact cl_any _
  refine wpIn_mono (h hI.lg G w K _ hs) ?_
  rintro ex a' w' ⟨e', M', K', D', h1, h2, h3, h4⟩
  have main : ∀ {H : List VObj} {vs : List VV}, vkill M.H.length D' M'.H = some H → vresL T e' { M' with H := H } fn.results.toList = some vs →
      Q (vfinish T f M.H.length (vtup vs) { M' with H := H }).1 (vfinish T f M.H.length (vtup vs) { M' with H := H }).2 → LeavesInM Fence.wide 0 P fn a'.tmps (Post G w K M Q) a'.defers .returning w' := by
    intro H vs hk hv hq
    refine kills a'.defers D' w' M' H ⟨h3.df.1, fun i d id hd hid => by obtain ⟨b, e1, e2, _⟩ := h3.df.2 i d id hd hid; exact ⟨b, e1, e2⟩⟩ h3.inv hk fun w2 q1 q2 q3 q4 q5 => ?_
    have hf2 : FrOk w2 K' { M' with H := H } fn.ntmps a'.tmps e' := ⟨h3.fr.size, fun t => (h3.fr.rep t).keep q2 fun _ _ => trivial, fun t => (h3.fr.cl t).mono (Nat.le_of_eq q4)⟩
    obtain ⟨rv, r1, r2, r3⟩ := results_ok hT q1 hf2 hv
    have he2 : Ext w K M.H w2 K' H := h4.keep q2 q3 fun i hi => ⟨(q5 i hi).1, rfl, fun hg b hb => (q5 i hi).2 hg b (Nat.lt_of_lt_of_le hi h4.len) hb⟩
    obtain ⟨f1, f2, f3, f4⟩ := finish_ok (T := T) (f := f) (M := { M' with H := H }) rfl he2 q1 r2 r3
    exact ⟨rv, r1, rv, _, K', _, rfl, hq, f1, f2, f3, f4⟩
  have main2 : retQ T f M.H.length fn Q .ret e' M' D' → LeavesInM Fence.wide 0 P fn a'.tmps (Post G w K M Q) a'.defers .returning w' := by
    intro h1
    simp only [retQ] at h1
    split at h1
    · rename_i H hk
      split at h1
      · rename_i vs hv
        exact main hk hv h1
      · cases h1
    · cases h1
  cases ex with
  | normal => exact main2 h1
  | ret => exact main2 h1
  | exit id => exact h1.elim
  | _ => exact h2.elim
end
end Go.Proofs.Ytmagiabapakhcaa.Vm
