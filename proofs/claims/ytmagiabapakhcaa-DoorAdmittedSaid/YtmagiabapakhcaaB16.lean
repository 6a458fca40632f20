/- A part of the proofs about the chapter of the doors; it states no condition of its own. -/
import Derived.Test.YtmagiabapakhcaaB14
import Derived.Test.YtmagiabapakhcaaB15
set_option linter.unusedVariables false
set_option linter.unusedSimpArgs false
/- Ranges over iterators; calls whose result leads to what nobody looks at. (Vm) -/
namespace Go.Proofs.Ytmagiabapakhcaa.Vm
open Go Go.Proofs
theorem get_prune_mem {vs : List Nat} {e : Env} {t : Nat} (h : t ∈ vs) : get (prune vs e) t = get e t := by
 unfold prune
 induction vs with
 | nil => cases h
 | cons v vs ih =>
  simp only [List.map_cons, get_cons]
  by_cases h' : t = v
  ·rw [if_pos h', h']
  ·rw [if_neg h']
   exact ih (by rcases List.mem_cons.1 h with h | h; exact absurd h h'; exact h)
theorem Sub_prune {vs : List Nat} {e : Env} : ∀ {E : Env}, Sub E e → (E.map Prod.fst).all (fun t => vs.contains t) = true → Sub E (prune vs e)
 | [], _, _ => trivial
 | (k, v) :: r, h, hv => by
  simp only [List.map_cons, List.all_cons, Bool.and_eq_true, List.contains_iff_mem] at hv
  exact ⟨(get_prune_mem hv.1).trans h.1, Sub_prune h.2 hv.2⟩
def IterOf (fi : Nat) (caps : List VV) (xs : List VV) (Pk : List VObj → Prop) : Prop :=
 ∀ {σ : Type} (id : Nat) (M : Mem) (A : σ → List VObj) (good : Nat → σ → Prop) (s0 : σ), good 0 s0 → (∀ s, (A s).length = M.H.length) → M.H = A s0 → (∀ s, Pk (A s)) →
  (∀ i x s junk, xs[i]? = some x → good i s → ∃ s' X, VCall Try.prog (.yl id) [x] ⟨A s ++ junk, M.lg⟩ (fun r M' => r = vb true ∧ M' = ⟨A s' ++ (junk ++ X), M.lg⟩) ∧ good (i + 1) s') →
  VC Try.prog fi (.yl id :: caps) M (fun r M' => ∃ s, M' = ⟨A s, M.lg⟩ ∧ good xs.length s)
theorem W_iter {cx : Cx} {e : Env} {M : Mem} {D : List Nat} {Q : PQ} {g : Operand} {p : Nat} {assign body : Code} (hrd : cx.rd = none) {fi : Nat} {fn : Func} (hfn : T.fn fi = some fn) (hkf : T.keeps fi = false) {caps : List VV} (hcp : caps.map strip1 = caps) (hg : ev e g = .fn (.func fi) [] caps) {xs : List VV} {Pk : List VObj → Prop} (hit : IterOf fi caps xs Pk)
  (hPk : ∀ A L, Pk A → Pk (A ++ L))
  {σ : Type} (E : Env) (A : σ → List VObj) (good : Nat → σ → Prop) (s0 : σ) (h0 : good 0 s0) (hA : ∀ s, (A s).length = M.H.length) (hM : M.H = A s0) (hk : ∀ s, Pk (A s)) (hp : Nat.blt p cx.nt = true) (hE : Sub E e) (hv : (E.map Prod.fst).all (fun t => (T.vars cx.fid).contains t) = true)
  (round : ∀ (o o' : VObj) i x s junk, xs[i]? = some x → good i s → ∃ s' junk2, good (i + 1) s' ∧ WCode Try.prog ⟨cx.fid, some (M.H.length + 1), cx.nt⟩ assign ((p, x) :: E) ⟨A s ++ .dfr :: o :: junk, M.lg⟩ []
   (fun ex e' M' D' => ex = .normal ∧ ∃ junk', M' = ⟨A s ++ .dfr :: o :: junk', M.lg⟩ ∧ WCode Try.prog ⟨cx.fid, some (M.H.length + 1), cx.nt⟩ body e' ⟨A s ++ .dfr :: o' :: junk', M.lg⟩ D'
    (fun ex e2 M2 D2 => ex = .normal ∧ M2 = ⟨A s' ++ .dfr :: o' :: (junk ++ junk2), M.lg⟩)))
  (fin : ∀ (o : VObj) s, good xs.length s → Q .normal e ⟨A s ++ [.dfr, o], M.lg⟩ (M.H.length :: D)) : WCode Try.prog cx (.rangeFunc g #[p] assign body) e M D Q := by
 obtain ⟨H, lg⟩ := M
 simp only at hA hM round fin
 subst hM
 obtain ⟨Lp, hLp⟩ : ∃ Lp, Lp = mkLoop T cx e #[p] assign body (A s0).length := ⟨_, rfl⟩
 have hget : ∀ (s : σ) (x y : VObj) (junk : List VObj), (A s ++ x :: y :: junk)[(A s0).length + 1]? = some y := fun s x y junk => by
  rw [← hA s, List.getElem?_append_right (by omega)]; simp
 have hset : ∀ (s : σ) (x y z : VObj) (junk : List VObj), (A s ++ x :: y :: junk).set ((A s0).length + 1) z = A s ++ x :: z :: junk := fun s x y z junk => by
  rw [← hA s, List.set_append_right _ _ (by omega)]; simp
 refine W_range T_ok (f := fi) (fn := fn) hrd hg hfn ?_
 rw [← hLp]
 have hst : (Mem.push (Mem.push ⟨A s0, lg⟩ .dfr) (.lp Lp)) = ⟨A s0 ++ [.dfr, .lp Lp], lg⟩ := by simp [Mem.push]
 rw [hst]
 have hargs : (([] ++ [VV.yl ((A s0).length + 1)] ++ caps).map (sarg T fi)) = .yl ((A s0).length + 1) :: caps := by
  have hsa : sarg T fi = strip1 := funext fun v => by simp [sarg, hkf]
  rw [hsa]
  simp [strip1, hcp]
 show VC Try.prog fi (([] ++ [VV.yl ((A s0).length + 1)] ++ caps).map (sarg T fi)) _ _
 rw [hargs]
 refine (hit ((A s0).length + 1) ⟨A s0 ++ [.dfr, .lp Lp], lg⟩ (fun s => A s ++ [.dfr, .lp Lp]) good s0 h0 (fun s => by simp [hA]) rfl (fun s => hPk _ _ (hk s)) ?_).mono ?_
 ·intro i c s junk hi hgd
  obtain ⟨s', junk2, hg', hround⟩ := round (.lp Lp) (.lp (Lp.with .busy none)) i c s junk hi hgd
  refine ⟨s', junk2, ?_, hg'⟩
  have hm : (A s ++ [.dfr, .lp Lp]) ++ junk = A s ++ .dfr :: .lp Lp :: junk := by simp
  rw [hm]
  refine V_yield (L := Lp) (e0 := (p, c) :: prune (T.vars cx.fid) e) (hget s _ _ _) (by rw [hLp]; simp [mkLoop, vputs, hp]) ?_
  have f1 : Lp.fid = cx.fid := by rw [hLp]; rfl
  have f2 : Lp.nt = cx.nt := by rw [hLp]; rfl
  have f3 : Lp.assign = assign := by rw [hLp]; rfl
  have f4 : Lp.body = body := by rw [hLp]; rfl
  rw [f1, f2, f3, f4]
  refine (WCode.weak hround ?_).mono ?_
  ·intro t
   rw [get_cons, get_cons]
   by_cases ht : t = p
   ·rw [if_pos ht, if_pos ht]; exact .inl rfl
   ·rw [if_neg ht, if_neg ht]; exact (Sub_prune hE hv).ok t
  ·rintro ex e' M' D' ⟨rfl, junk', rfl, hb⟩
   refine ⟨Lp, hget s _ _ _, by rw [hLp]; rfl, ?_⟩
   simp only [Mem.loop, hset]
   have hpd : Lp.pend = none := by rw [hLp]; rfl
   rw [hpd]
   refine hb.mono ?_
   rintro ex e2 M2 D2 ⟨rfl, rfl⟩
   refine ⟨Lp.with .busy none, hget s' _ _ _, ?_⟩
   simp only [Mem.loop, hset]
   have hback : ∀ L : LoopV, L.st = .ready → L.pend = none → (L.with .busy none).with .ready none = L := fun L h1 h2 => by
    cases L
    simp only at h1 h2
    subst h1 h2
    rfl
   rw [hback Lp (by rw [hLp]; rfl) hpd]
   exact ⟨by trivial, by simp⟩
 ·rintro r M' ⟨s, rfl, hgd⟩
  refine ⟨Lp, hget s _ _ _, by rw [hLp]; rfl, ?_⟩
  have hpd : Lp.pend = none := by rw [hLp]; rfl
  simp only [Mem.loop, hset, hpd]
  exact fin _ s hgd
theorem VC_first {P : Program} {f : Nat} {args : List VV} {M : Mem} {a : VV} (ha : isCell a = true) (hr : refs a = []) (hfz : ∀ n H, frz n H a = a) (h : VC P f args M (fun r M' => ∃ b L X, r = .tup [a, b] ∧ M' = ⟨M.H ++ L, M.lg ++ X⟩ ∧ ∀ e ∈ X, M.H.length ≤ e.1)) : VC P f args M (fun r M' => M' = M ∧ r = .tup [a, .any]) := by
 intro G w K rargs hI hA
 refine (h G w K rargs hI hA).mono ?_
 intro e w'
 rintro ⟨rv, r, K', M', he, ⟨b, L, X, rfl, rfl, hX⟩, h1, h2, h3, h4⟩
 have hr1 : RepV w' K' (M.H ++ L) rv (.tup [a, .any]) := by
  cases h1 with
  | tup vs cs hs hh =>
   refine .tup vs _ (by simpa using hs) fun i v c hv hc => ?_
   rcases i with _ | _ | i
   ·simp only [List.getElem?_cons_zero, Option.some.injEq] at hc
    subst hc
    exact hh 0 v _ hv rfl
   ·simp only [List.getElem?_cons_succ, List.getElem?_cons_zero, Option.some.injEq] at hc
    subst hc
    exact .any _
   ·simp at hc
 have hrf : refs (VV.tup [a, .any]) = [] := by simp [refs, refsL, hr]
 have hfr : frz M.H.length (M.H ++ L) (.tup [a, .any]) = .tup [a, .any] := by
  rw [frz, frzL, frzL, frzL, hfz]
  simp [frz]
 have hf := frz_ok h4 (n0 := M.H.length) (by simp) hr1 hr1 (by rw [hfr, hrf]; intro r hr; cases hr)
 rw [hfr] at hf
 have htk : (M.H ++ L).take M.H.length = M.H := by simp
 simp only [htk] at hf
 refine ⟨rv, _, K', M, he, ⟨rfl, rfl⟩, hf, fun q hq => (by rw [hrf] at hq; cases hq), ?_, ?_⟩
 ·have := h3.keep (keep_take M.H.length) (Nat.le_refl _) fun i hi => ⟨by rw [List.getElem?_take_of_lt hi], rfl, fun _ _ _ => rfl⟩
  simpa only [htk] using this
 ·have hlg := hI.lg
  have := inv_take h4 (n := M.H.length) (lg' := M.lg) (by simp) (fun e he h1 => by
   rcases List.mem_append.1 he with he | he
   ·exact ⟨(hlg e he).2, he⟩
   ·have := hX e he
    omega) hlg
  simpa only [htk] using this
end Go.Proofs.Ytmagiabapakhcaa.Vm

/- Flows: as much as can flow, on values. (Vm) -/
namespace Go.Proofs.Ytmagiabapakhcaa
structure Wa where
 fr : Nat
 to : Nat
 most : Int
 deriving DecidableEq
def add2 (R : List (List Int)) (w : Wa) : List (List Int) := upd2 R w.fr w.to (at2 R w.fr w.to + w.most)
def zeros2 (N : Nat) : List (List Int) := List.replicate N (List.replicate N 0)
def tabOfW (N : Nat) (ws : List Wa) : List (List Int) := ws.foldl add2 (zeros2 N)
structure WaOk (N : Nat) (w : Wa) : Prop where
 fr : w.fr < N
 to : w.to < N
 lo : 0 ≤ w.most
 hi : w.most ≤ 1073741824
theorem zeros2_sq (N : Nat) : Sq N (zeros2 N) := ⟨by simp [zeros2], fun r hr => by
 simp only [zeros2, List.mem_replicate] at hr
 rw [hr.2]; simp⟩
theorem zeros2_at (N i j : Nat) : at2 (zeros2 N) i j = 0 := by
 unfold at2 zeros2
 rw [List.getD_eq_getElem?_getD (l := List.replicate N _), List.getElem?_replicate]
 split
 ·rw [Option.getD_some, List.getD_eq_getElem?_getD, List.getElem?_replicate]
  split <;> rfl
 ·rfl
theorem tabW_succ (N : Nat) (ws : List Wa) (w : Wa) : tabOfW N (ws ++ [w]) = add2 (tabOfW N ws) w := by simp [tabOfW]
theorem tabW_ok {N : Nat} : ∀ (n : Nat) (ws : List Wa), ws.length = n → (∀ w ∈ ws, WaOk N w) → Sq N (tabOfW N ws) ∧ ∀ i j, 0 ≤ at2 (tabOfW N ws) i j ∧ at2 (tabOfW N ws) i j ≤ 1073741824 * (n : Int) := by
 intro n
 induction n with
 | zero =>
  intro ws h _
  rw [List.length_eq_zero_iff.1 h]
  refine ⟨zeros2_sq N, fun i j => ?_⟩
  show 0 ≤ at2 (zeros2 N) i j ∧ at2 (zeros2 N) i j ≤ _
  rw [zeros2_at]
  omega
 | succ n ih =>
  intro ws h hw
  rcases List.eq_nil_or_concat ws with rfl | ⟨vs, w, rfl⟩
  ·cases h
  ·rw [List.concat_eq_append] at h hw ⊢
   simp at h
   obtain ⟨q1, q2⟩ := ih vs h fun x hx => hw x (List.mem_append_left _ hx)
   have hww := hw w (by simp)
   rw [tabW_succ]
   refine ⟨q1.upd hww.fr _ _, fun i j => ?_⟩
   unfold add2
   rw [at2_upd q1 hww.fr hww.to]
   have h1 := q2 i j
   have h2 := q2 w.fr w.to
   have := hww.lo
   have := hww.hi
   split <;> omega
open Classical in
noncomputable def mfv (N : Nat) (C : List (List Int)) : Int := if h : ∃ v, MF N C v then Classical.choose h else 0
theorem mfv_eq {N : Nat} {C : List (List Int)} (hN : 2 ≤ N) {v : Int} (h : MF N C v) : mfv N C = v := by
 unfold mfv
 have he : ∃ v, MF N C v := ⟨v, h⟩
 rw [dif_pos he]
 exact (Classical.choose_spec he).unique hN h
end Go.Proofs.Ytmagiabapakhcaa
namespace Go.Proofs.Ytmagiabapakhcaa.Vm
open Go Go.Proofs
abbrev wayV (w : Wa) : VV := .agg [vi w.fr, vi w.to, vi w.most]
abbrev rowO (r : List Int) : VObj := .obj (r.map vi)
def FA (H0 : List VObj) (N : Nat) (R : List (List Int)) : List VObj := H0 ++ (VObj.obj ((List.range N).map fun i => .bf (H0.length + 2 + i) 0 N 1) :: .obj [.bf H0.length 0 N 1] :: R.map rowO)
section
variable {H0 : List VObj} {N : Nat} {R : List (List Int)}
theorem FA_len : (FA H0 N R).length = H0.length + 2 + R.length := by simp [FA]; omega
theorem FA_0 : (FA H0 N R)[H0.length]? = some (.obj ((List.range N).map fun i => .bf (H0.length + 2 + i) 0 N 1)) := by rw [FA, hget0]; rfl
theorem FA_1 : (FA H0 N R)[H0.length + 1]? = some (.obj [.bf H0.length 0 N 1]) := by rw [FA, hget]; rfl
theorem FA_row {i : Nat} (hi : i < R.length) : (FA H0 N R)[H0.length + 2 + i]? = some (.obj ((R.getD i []).map vi)) := by
 rw [FA, Nat.add_assoc, hget, show 2 + i = i + 1 + 1 by omega, List.getElem?_cons_succ, List.getElem?_cons_succ, List.getElem?_map, List.getElem?_eq_getElem hi, List.getD_eq_getElem?_getD, List.getElem?_eq_getElem hi]
 rfl
theorem FA_set (i : Nat) (r : List Int) : (FA H0 N R).set (H0.length + 2 + i) (.obj (r.map vi)) = FA H0 N (R.set i r) := by
 rw [FA, Nat.add_assoc, hset, show 2 + i = i + 1 + 1 by omega, List.set_cons_succ, List.set_cons_succ, FA, List.map_set]
end
end Go.Proofs.Ytmagiabapakhcaa.Vm
