/- A part of the proofs about the chapter of the ramps; it states no condition of its own. -/
import Derived.Test.YthcicaelnchfdaaB08
set_option linter.unusedVariables false
set_option linter.unusedSimpArgs false
/- A machine on values: regions whose order is drawn: the rule. -/
namespace Go.Proofs.Ythcicaelnchfdaa.Vm
open Go

/-! ### plans -/
theorem nodupB_ok : ∀ {l : List Oper}, nodupB (l.filterMap (·.dst)) = true → ∀ (i j : Nat) (o o' : Oper) (d : Nat), l[i]? = some o → l[j]? = some o' → o.dst = some d → o'.dst = some d → i = j
 | [], _, i, j, o, o', d, h, _, _, _ => by simp at h
 | x :: l, hn, i, j, o, o', d, hi, hj, ho, ho' => by
  have key : ∀ (j : Nat) (o' : Oper), x.dst = some d → l[j]? = some o' → o'.dst = some d → False := fun j o' hx hj ho' => by
   rw [List.filterMap_cons, hx] at hn
   simp only [nodupB, Bool.and_eq_true, Bool.not_eq_true', List.any_eq_false] at hn
   exact hn.1 d (List.mem_filterMap.2 ⟨o', List.mem_of_getElem? hj, ho'⟩) (by simp)
  have hn' : nodupB (l.filterMap (·.dst)) = true := by
   rw [List.filterMap_cons] at hn
   split at hn
   ·exact hn
   ·simp only [nodupB, Bool.and_eq_true] at hn; exact hn.2
  cases i with
  | zero =>
   cases j with
   | zero => rfl
   | succ j =>
    simp at hi hj
    subst hi
    exact (key j o' ho hj ho').elim
  | succ i =>
   cases j with
   | zero =>
    simp at hi hj
    subst hj
    exact (key i o ho' hi ho).elim
   | succ j => rw [nodupB_ok hn' i j o o' d (by simpa using hi) (by simpa using hj) ho ho']
theorem chainOk_ok {ops : Array Oper} {pm : List Nat} (hpm : ∀ k j, Nat.testBit (pm.getD k 0) j = true → Pre ops j k) : ∀ {E : List Nat}, chainOk pm E = true → ∀ j x y, E[j]? = some x → E[j + 1]? = some y → Pre ops x y
 | [], _, j, x, y, h, _ => by simp at h
 | [a], _, j, x, y, h, h' => by simp at h'
 | a :: b :: r, hc, j, x, y, h, h' => by
  simp only [chainOk, Bool.and_eq_true] at hc
  cases j with
  | zero =>
   simp at h h'
   subst h h'
   exact hpm _ _ hc.1
  | succ j => exact chainOk_ok hpm hc.2 j x y (by simpa using h) (by simpa using h')
theorem eIdx_mem {ops : Array Oper} {i : Nat} : i ∈ eIdx ops ↔ ∃ o, ops[i]? = some o ∧ isE o = true := by
 unfold eIdx
 rw [List.mem_filter, List.mem_range]
 constructor
 ·rintro ⟨h1, h2⟩
  rw [Array.getElem?_eq_getElem h1] at h2 ⊢
  exact ⟨_, rfl, h2⟩
 ·rintro ⟨o, h1, h2⟩
  exact ⟨(Array.getElem?_eq_some_iff.1 h1).1, by rw [h1]; exact h2⟩
theorem eIdx_nodup (ops : Array Oper) : (eIdx ops).Nodup := by unfold eIdx; exact (List.filter_sublist).nodup List.nodup_range

def rdr : Go.Op → Bool
 | .load .. => true
 | .lookup .. => true
 | .call .. => true
 | _ => false
theorem vbuildOwn_ne {T : Tab} {t n : Nat} {ps : List (Nat × VV)} {M : Mem} {v : VV} : vbuildOwn T t n ps M ≠ some (v, M) := by
 intro h
 have hp : ∀ o, M.push o ≠ M := fun o e => by
  have := congrArg (fun m : Mem => m.H.length) e
  simp [Mem.push] at this
 unfold vbuildOwn at h
 split at h
 ·generalize (_ && _) = b at h
  cases b with
  | false => cases h
  | true =>
   simp only [cond_true, Option.some.injEq, Prod.mk.injEq] at h
   exact hp _ h.2
 ·cases h
theorem not_rdr {T : Tab} {o : Oper} {ρ : Operand → VV} {M : Mem} {v : VV} (h : vop T o.op ρ M = some (v, M)) (hr : rdr o.op = false) (he : isE o = false) (ha : isA o = false) (M2 : Mem) : vop T o.op ρ M2 = some (v, M2) := by
 obtain ⟨dst, op, type, pos, after, guard⟩ := o
 simp only at h hr ⊢
 have key : ∀ {x : Option VV}, x.map (·, M) = some (v, M) → x.map (·, M2) = some (v, M2) := fun {x} hx => by
  cases x with
  | none => cases hx
  | some u => simp at hx; simp [hx]
 cases op <;> first | (simp [rdr] at hr; done) | (simp [isE] at he; done) | (simp [isA] at ha; done) | (simp only [vop] at h; cases h; done) | exact key h | skip
 all_goals simp only [vop] at h ⊢
 all_goals first
  | (cases h; rfl)
  | (generalize T.ownS _ = b at h ⊢; cases b; exact key h; exact absurd h vbuildOwn_ne)
  | (generalize (List.all _ _ && List.all _ _) = b at h ⊢; cases b <;> simp_all; done)
  | (split at h <;> first | (cases h; done) | (exact key h) | (cases h; rfl) | (cases h; simp_all; done) | (simp_all; done))
end Go.Proofs.Ythcicaelnchfdaa.Vm

/- A machine on values: regions whose order is drawn: the rule, made of one order. -/
namespace Go.Proofs.Ythcicaelnchfdaa.Vm
open Go

abbrev Pds := List (Nat × (Mem → Prop))
def pdOk : Pds → Mem → Prop
 | [], _ => True
 | (_, c) :: r, M => c M ∧ pdOk r M
def pdTick : Pds → Pds
 | [] => []
 | (0, _) :: r => pdTick r
 | (1, _) :: r => pdTick r
 | (n + 2, c) :: r => (n + 1, c) :: pdTick r
def pdPush (n : Nat) (c : Mem → Prop) (pd : Pds) : Pds := match n with
 | 0 => pd
 | n + 1 => (n + 1, c) :: pd
theorem pdPush_here {n : Nat} {c : Mem → Prop} {pd : Pds} (h : 0 < n) : (n, c) ∈ pdPush n c pd := by
 cases n with
 | zero => omega
 | succ n => exact List.mem_cons_self ..
theorem pdPush_old {n : Nat} {c : Mem → Prop} {pd : Pds} {x : Nat × (Mem → Prop)} (h : x ∈ pd) : x ∈ pdPush n c pd := by
 cases n with
 | zero => exact h
 | succ n => exact List.mem_cons_of_mem _ h
def Back (c : Mem → Prop) : Nat → List Mem → Prop
 | 0, _ => True
 | _ + 1, [] => True
 | n + 1, M :: r => c M ∧ Back c n r
theorem pdOk_mem : ∀ {pd : Pds} {M : Mem}, pdOk pd M → ∀ n c, (n, c) ∈ pd → c M
 | (_, c) :: r, M, h, n, c', hm => by
  rcases List.mem_cons.1 hm with e | hm
  ·cases e; exact h.1
  ·exact pdOk_mem h.2 n c' hm
theorem pdTick_mem : ∀ {pd : Pds} {n : Nat} {c : Mem → Prop}, (n + 2, c) ∈ pd → (n + 1, c) ∈ pdTick pd
 | (m, c') :: r, n, c, hm => by
  rcases List.mem_cons.1 hm with e | hm
  ·cases e; simp [pdTick]
  ·have := pdTick_mem hm
   match m with
   | 0 => exact this
   | 1 => exact this
   | m + 2 => exact List.mem_cons_of_mem _ this
theorem Back_get {c : Mem → Prop} : ∀ {n : Nat} {past : List Mem}, Back c n past → ∀ j, j < n → ∀ M, past[j]? = some M → c M
 | 0, _, _, j, hj, _, _ => absurd hj (Nat.not_lt_zero _)
 | n + 1, [], _, j, _, M, h => by simp at h
 | n + 1, M0 :: r, hb, 0, _, M, h => by cases h; exact hb.1
 | n + 1, M0 :: r, hb, j + 1, hj, M, h => Back_get hb.2 j (by omega) M (by simpa using h)

section
variable (P : Program) (T : Tab) (nt : Nat) (ops : Array Oper)
def WDraw : List Oper → List Info → Env → Nat → Mem → List Mem → Pds → (Env → Mem → Prop) → Prop
 | o :: r, inf :: s, e, na, M, past, pd, Kn =>
  match vwanted ops o (prune (tmpsOf ops o) e) with
  | none => False
  | some false => match vput nt o.dst (.tup []) e with
   | some e' => if inf.e = true then pdOk pd M ∧ WDraw r s e' na M (M :: past) (pdTick pd) Kn else WDraw r s e' na M past pd Kn
   | none => False
  | some true =>
   if isA o = true then match o.op with
    | .alloc t => match T.ty t with
     | some y => match vput nt o.dst (.ptr na 0) e with
      | some e' => M.H[na]? = some (.obj (y.zero.map ofValue)) ∧ Back (fun M => M.H[na]? = some (.obj (y.zero.map ofValue))) past.length past ∧
        WDraw r s e' (na + 1) M past (pdPush inf.fw (fun M => M.H[na]? = some (.obj (y.zero.map ofValue))) pd) Kn
      | none => False
     | none => False
    | _ => False
   else if inf.e = true then ∃ v M', WOp P T o (prune (tmpsOf ops o) e) M (fun v' M'' => v' = v ∧ M'' = M') ∧ pdOk pd M' ∧ (match vput nt o.dst v e with
    | some e' => WDraw r s e' na M' (M :: past) (pdTick pd) Kn
    | none => False)
   else match vop T o.op (ev (prune (tmpsOf ops o) e)) M with
    | some (v, M') => M' = M ∧ match vput nt o.dst v e with
     | some e' => if rdr o.op = true then Back (fun M => vop T o.op (ev (prune (tmpsOf ops o) e)) M = some (v, M)) inf.bk past ∧
       WDraw r s e' na M past (pdPush inf.fw (fun M => vop T o.op (ev (prune (tmpsOf ops o) e)) M = some (v, M)) pd) Kn
      else WDraw r s e' na M past pd Kn
     | none => False
    | none => False
 | [], [], e, _, M, _, _, Kn => Kn e M
 | _, _, _, _, _, _, _, _ => False

def EnvAt (e0 : Env) (vals : Nat → VV) (i : Nat) (e : Env) : Prop := ∀ t, (∃ (j : Nat) (o : Oper), j < i ∧ ops[j]? = some o ∧ o.dst = some t ∧ get e t = vals j) ∨ ((∀ (j : Nat) (o : Oper), j < i → ops[j]? = some o → o.dst ≠ some t) ∧ get e t = get e0 t)
structure OpF (e0 : Env) (n0 : Nat) (E : List Nat) (vals : Nat → VV) (mems : Nat → Mem) (er : Nat → Env) (lo hi : Nat → Nat) (b : Nat → Bool) (aid : Nat → Nat) (i : Nat) (o : Oper) : Prop where
 dst : ∀ (d : Nat), o.dst = some d → d < nt
 ers : ∀ (t : Nat), get (er i) t = .any ∨ ((∀ (j : Nat) (o' : Oper), ops[j]? = some o' → o'.dst = some t → Pre ops j i ∨ Pre ops i j ∨ j = i) ∧
  ((∃ (j : Nat) (o' : Oper), Pre ops j i ∧ ops[j]? = some o' ∧ o'.dst = some t ∧ get (er i) t = vals j) ∨ ((∀ (j : Nat) (o' : Oper), Pre ops j i → ops[j]? = some o' → o'.dst ≠ some t) ∧ get (er i) t = get e0 t)))
 los : lo i = 0 ∨ ∃ x, E[lo i - 1]? = some x ∧ Pre ops x i
 his : E.length ≤ hi i ∨ ∃ x, E[hi i]? = some x ∧ (Pre ops i x ∨ x = i)
 guard : vwanted ops o (er i) = some (b i)
 skip : b i = false → vals i = .tup [] ∧ ∀ k, E[k]? = some i → mems (k + 1) = mems k
 op : b i = true →
   (∃ t y, o.op = .alloc t ∧ T.ty t = some y ∧ i ∉ E ∧ vals i = .ptr (aid i) 0 ∧ n0 ≤ aid i ∧ ∀ k, k ≤ hi i → k ≤ E.length → (mems k).H[aid i]? = some (.obj (y.zero.map ofValue))) ∨
   (isA o = false ∧ ∃ k, E[k]? = some i ∧ WOp P T o (er i) (mems k) (fun v M' => v = vals i ∧ M' = mems (k + 1))) ∨
   (isA o = false ∧ i ∉ E ∧ ∀ k, lo i ≤ k → k ≤ hi i → k ≤ E.length → vop T o.op (ev (er i)) (mems k) = some (vals i, mems k))
end

theorem get_prune' (vs : List Nat) (e : Env) (t : Nat) : get (prune vs e) t = .any ∨ (t ∈ vs ∧ get (prune vs e) t = get e t) := by
 unfold prune
 induction vs with
 | nil => exact .inl rfl
 | cons v vs ih =>
  simp only [List.map_cons, get_cons]
  by_cases h : t = v
  ·rw [if_pos h, h]; exact .inr ⟨by simp, rfl⟩
  ·rw [if_neg h]; exact ih.imp_right fun h => ⟨by simp [h.1], h.2⟩
theorem EnvAt.put {ops : Array Oper} {e0 : Env} {vals : Nat → VV} {i : Nat} {e e' : Env} {o : Oper} {nt : Nat} {v : VV} (h : EnvAt ops e0 vals i e) (ho : ops[i]? = some o) (hp : vput nt o.dst v e = some e') :
  EnvAt ops e0 (fun j => if j = i then v else vals j) (i + 1) e' ∧ ∀ d, o.dst = some d → d < nt := by
 unfold vput at hp
 cases hd : o.dst with
 | none =>
  rw [hd] at hp
  cases hp
  refine ⟨fun t => ?_, fun d h => by cases h⟩
  rcases h t with ⟨j, o', h1, h2, h3, h4⟩ | ⟨h1, h2⟩
  ·exact .inl ⟨j, o', by omega, h2, h3, by show get e t = (if j = i then v else vals j); rw [if_neg (by omega)]; exact h4⟩
  ·refine .inr ⟨fun j o' hj ho' hd' => ?_, h2⟩
   rcases Nat.lt_or_ge j i with hlt | hge
   ·exact h1 j o' hlt ho' hd'
   ·have : j = i := by omega
    subst this
    rw [ho] at ho'
    cases ho'
    rw [hd] at hd'
    cases hd'
 | some d =>
  rw [hd] at hp
  simp only at hp
  cases hb : Nat.blt d nt with
  | false => rw [hb] at hp; cases hp
  | true =>
   rw [hb] at hp
   cases hp
   refine ⟨fun t => ?_, fun d' h => by cases h; simpa [Nat.blt_eq] using hb⟩
   rw [get_cons]
   by_cases ht : t = d
   ·subst ht
    exact .inl ⟨i, o, by omega, ho, hd, by simp⟩
   ·rw [if_neg ht]
    rcases h t with ⟨j, o', h1, h2, h3, h4⟩ | ⟨h1, h2⟩
    ·exact .inl ⟨j, o', by omega, h2, h3, by show get e t = (if j = i then v else vals j); rw [if_neg (by omega)]; exact h4⟩
    ·refine .inr ⟨fun j o' hj ho' hd' => ?_, h2⟩
     rcases Nat.lt_or_ge j i with hlt | hge
     ·exact h1 j o' hlt ho' hd'
     ·have : j = i := by omega
      subst this
      rw [ho] at ho'
      cases ho'
      rw [hd] at hd'
      cases hd'
      exact ht rfl

structure Static (ops : Array Oper) (E : List Nat) (i k : Nat) (o : Oper) (inf : Info) : Prop where
 edge : ∀ e ∈ o.after, Region.binds .any e = true → e.on < i
 tm : ∀ t ∈ tmpsOf ops o, ∀ (j : Nat) (o' : Oper), ops[j]? = some o' → o'.dst = some t → Pre ops j i ∨ Pre ops i j ∨ j = i
 e : inf.e = isE o
 bk : inf.bk ≤ k
 lo : k - inf.bk = 0 ∨ ∃ x, E[k - inf.bk - 1]? = some x ∧ Pre ops x i
 hi : E.length ≤ k + inf.fw ∨ ∃ x, E[k + inf.fw]? = some x ∧ (Pre ops i x ∨ x = i)
 ee : inf.e = true → isA o = false ∧ E[k]? = some i
theorem opPlan_ok {ops : Array Oper} {pm E : List Nat} (hpm : ∀ k j, Nat.testBit (pm.getD k 0) j = true → Pre ops j k) {i k : Nat} {o : Oper} {inf : Info} (h : opPlan ops pm E i k o inf = true) : Static ops E i k o inf := by
 simp only [opPlan, Bool.and_eq_true] at h
 obtain ⟨⟨⟨⟨⟨⟨h1, h2⟩, h3⟩, h4⟩, h5⟩, h6⟩, h7⟩ := h
 refine ⟨fun e he hb => ?_, fun t ht j o' ho' hd => ?_, by simpa using h3, by simpa [Nat.ble_eq] using h4, ?_, ?_, fun he => ?_⟩
 ·have := List.all_eq_true.1 h1 e (by simpa using he)
  simpa [hb, Nat.blt_eq] using this
 ·have := List.all_eq_true.1 (List.all_eq_true.1 h2 t ht) j (List.mem_range.2 (Array.getElem?_eq_some_iff.1 ho').1)
  rw [ho'] at this
  simp only [hd] at this
  simp only [Nat.beq_refl, Bool.not_true, Bool.false_or, Bool.or_eq_true] at this
  rcases this with (h | h) | h
  ·exact .inl (hpm _ _ h)
  ·exact .inr (.inl (hpm _ _ h))
  ·exact .inr (.inr (Nat.eq_of_beq_eq_true h))
 ·rcases (Bool.or_eq_true_iff ..).1 h5 with h | h
  ·exact .inl (Nat.eq_of_beq_eq_true h)
  ·split at h
   ·rename_i x hx
    exact .inr ⟨x, hx, hpm _ _ h⟩
   ·cases h
 ·split at h6
  ·rename_i x hx
   refine .inr ⟨x, hx, ?_⟩
   rcases (Bool.or_eq_true_iff ..).1 h6 with h | h
   ·exact .inl (hpm _ _ h)
   ·exact .inr (Nat.eq_of_beq_eq_true h)
  ·rename_i hx
   exact .inl (List.getElem?_eq_none_iff.1 hx)
 ·rw [he] at h7
  simp only [Bool.not_true, Bool.false_or, Bool.and_eq_true, Bool.not_eq_true'] at h7
  refine ⟨h7.1.2, ?_⟩
  have := h7.2
  split at this
  ·rename_i x hx
   rw [hx, Nat.eq_of_beq_eq_true this]
  ·cases this
end Go.Proofs.Ythcicaelnchfdaa.Vm

/- A machine on values: regions whose order is drawn: from one order to all. -/
namespace Go.Proofs.Ythcicaelnchfdaa.Vm
open Go

def fset {α : Type} (f : Nat → α) (i : Nat) (v : α) : Nat → α := fun j => if j = i then v else f j
theorem fset_same {α : Type} (f : Nat → α) (i : Nat) (v : α) : fset f i v i = v := by simp [fset]
theorem fset_ne {α : Type} (f : Nat → α) {i j : Nat} (v : α) (h : j ≠ i) : fset f i v j = f j := by simp [fset, h]

section
variable {P : Program} {T : Tab} {nt : Nat} {ops : Array Oper} {e00 : Env} {n0 : Nat} {E pm : List Nat}

structure Out (P : Program) (T : Tab) (nt : Nat) (ops : Array Oper) (e00 : Env) (n0 : Nat) (E : List Nat) (i0 k0 na : Nat) (pd : Pds) (Kn : Env → Mem → Prop) (vals0 : Nat → VV) (mems0 : Nat → Mem) (er0 : Nat → Env) (lo0 hi0 : Nat → Nat) (b0 : Nat → Bool) (aid0 : Nat → Nat)
  (vals : Nat → VV) (mems : Nat → Mem) (er : Nat → Env) (lo hi : Nat → Nat) (b : Nat → Bool) (aid : Nat → Nat) (e' : Env) : Prop where
 agree : ∀ j, j < i0 → vals j = vals0 j ∧ er j = er0 j ∧ lo j = lo0 j ∧ hi j = hi0 j ∧ b j = b0 j ∧ aid j = aid0 j
 amem : ∀ k, k ≤ k0 → mems k = mems0 k
 pds : ∀ n c, (n, c) ∈ pd → ∀ k, k0 < k → k ≤ k0 + n → k ≤ E.length → c (mems k)
 facts : ∀ (i : Nat) (o : Oper), i0 ≤ i → ops[i]? = some o → OpF P T nt ops e00 n0 E vals mems er lo hi b aid i o
 aids : ∀ (i : Nat) (o : Oper), i0 ≤ i → ops[i]? = some o → isA o = true → b i = true → na ≤ aid i
 aids2 : ∀ (i j : Nat) (o o' : Oper), i0 ≤ i → i < j → ops[i]? = some o → ops[j]? = some o' → isA o = true → isA o' = true → b i = true → b j = true → aid i < aid j
 env : EnvAt ops e00 vals ops.size e'
 fin : Kn e' (mems E.length)

theorem opF_here {i k : Nat} {o : Oper} {inf : Info} {e : Env} (hs : Static ops E i k o inf) (hpre : ∀ j, Pre ops j i → j < i) (hpre2 : ∀ j, i < ops.size → j < ops.size → Pre ops i j → i < j) (hi : ops[i]? = some o)
  {vals : Nat → VV} {mems : Nat → Mem} {er : Nat → Env} {lo hi' : Nat → Nat} {b : Nat → Bool} {aid : Nat → Nat} (hE : EnvAt ops e00 vals i e) (her : er i = prune (tmpsOf ops o) e) (hlo : lo i = k - inf.bk) (hhi : hi' i = k + inf.fw)
  (hd : ∀ d, o.dst = some d → d < nt) (hg : vwanted ops o (prune (tmpsOf ops o) e) = some (b i)) (hskip : b i = false → vals i = .tup [] ∧ ∀ k, E[k]? = some i → mems (k + 1) = mems k)
  (hop : b i = true →
   (∃ t y, o.op = .alloc t ∧ T.ty t = some y ∧ i ∉ E ∧ vals i = .ptr (aid i) 0 ∧ n0 ≤ aid i ∧ ∀ k, k ≤ hi' i → k ≤ E.length → (mems k).H[aid i]? = some (.obj (y.zero.map ofValue))) ∨
   (isA o = false ∧ ∃ k, E[k]? = some i ∧ WOp P T o (er i) (mems k) (fun v M' => v = vals i ∧ M' = mems (k + 1))) ∨
   (isA o = false ∧ i ∉ E ∧ ∀ k, lo i ≤ k → k ≤ hi' i → k ≤ E.length → vop T o.op (ev (er i)) (mems k) = some (vals i, mems k))) :
  OpF P T nt ops e00 n0 E vals mems er lo hi' b aid i o := by
 have hil := (Array.getElem?_eq_some_iff.1 hi).1
 refine ⟨hd, fun t => ?_, by rw [hlo]; exact hs.lo, by rw [hhi]; exact hs.hi, by rw [her]; exact hg, hskip, hop⟩
 rw [her]
 rcases get_prune' (tmpsOf ops o) e t with h | ⟨h1, h2⟩
 ·exact .inl h
 ·refine .inr ⟨hs.tm t h1, ?_⟩
  rw [h2]
  rcases hE t with ⟨j, o', q1, q2, q3, q4⟩ | ⟨q1, q2⟩
  ·refine .inl ⟨j, o', ?_, q2, q3, q4⟩
   rcases hs.tm t h1 j o' q2 q3 with h | h | h
   ·exact h
   ·have := hpre2 j hil (Array.getElem?_eq_some_iff.1 q2).1 h; omega
   ·omega
  ·exact .inr ⟨fun j o' hp => q1 j o' (hpre j hp), q2⟩

theorem EnvAt.congr {e e0 : Env} {vals vals' : Nat → VV} {i : Nat} (h : EnvAt ops e0 vals i e) (hv : ∀ j, j < i → vals j = vals' j) : EnvAt ops e0 vals' i e := fun t => by
 rcases h t with ⟨j, o, h1, h2, h3, h4⟩ | h
 ·exact .inl ⟨j, o, h1, h2, h3, h4.trans (hv j h1)⟩
 ·exact .inr h

theorem vop_mem {o : Oper} {ρ : Operand → VV} {M M' : Mem} {v : VV} (h : vop T o.op ρ M = some (v, M')) (hm : M' = M) : vop T o.op ρ M = some (v, M) := by rw [h, hm]

theorem WDraw_out (hpm : ∀ k j, Nat.testBit (pm.getD k 0) j = true → Pre ops j k) (hpre : ∀ i j, i < ops.size → Pre ops j i → j < i) (hE : E = eIdx ops) {Kn : Env → Mem → Prop} : ∀ (rest : List Oper) (infs : List Info) (i0 k0 : Nat) (e : Env) (na : Nat) (past : List Mem) (pd : Pds)
  (vals0 : Nat → VV) (mems0 : Nat → Mem) (er0 : Nat → Env) (lo0 hi0 : Nat → Nat) (b0 : Nat → Bool) (aid0 : Nat → Nat),
  (∀ j, rest[j]? = ops[i0 + j]?) → i0 + rest.length = ops.size → plansOk ops pm E i0 k0 rest infs = true → n0 ≤ na → past.length = k0 → (∀ j, j < k0 → past[j]? = some (mems0 (k0 - 1 - j))) → EnvAt ops e00 vals0 i0 e →
  WDraw P T nt ops rest infs e na (mems0 k0) past pd Kn →
  ∃ vals mems er lo hi b aid e', Out P T nt ops e00 n0 E i0 k0 na pd Kn vals0 mems0 er0 lo0 hi0 b0 aid0 vals mems er lo hi b aid e'
 | [], [], i0, k0, e, na, past, pd, vals0, mems0, er0, lo0, hi0, b0, aid0, hr, hlen, hpl, hna, hpast, hpg, henv, hw => by
  simp only [plansOk] at hpl
  have hk : k0 = E.length := Nat.eq_of_beq_eq_true hpl
  have hi : i0 = ops.size := by simpa using hlen
  subst hk hi
  simp only [WDraw] at hw
  have hno : ∀ (i : Nat) (o : Oper), ops.size ≤ i → ops[i]? = some o → False := fun i o h1 h2 => by have := (Array.getElem?_eq_some_iff.1 h2).1; omega
  exact ⟨vals0, mems0, er0, lo0, hi0, b0, aid0, e, fun _ _ => ⟨rfl, rfl, rfl, rfl, rfl, rfl⟩, fun _ _ => rfl, fun n c _ k h1 _ h2 => by omega, fun i o h1 h2 => (hno i o h1 h2).elim, fun i o h1 h2 => (hno i o h1 h2).elim,
   fun i j o o' h1 _ h2 => (hno i o h1 h2).elim, henv, hw⟩
 | o :: r, inf :: s, i0, k0, e, na, past, pd, vals0, mems0, er0, lo0, hi0, b0, aid0, hr, hlen, hpl, hna, hpast, hpg, henv, hw => by
  simp only [plansOk, Bool.and_eq_true] at hpl
  obtain ⟨hpl0, hpl1⟩ := hpl
  have hs := opPlan_ok hpm hpl0
  have ho : ops[i0]? = some o := by simpa using (hr 0).symm
  have hil := (Array.getElem?_eq_some_iff.1 ho).1
  have hrest : ∀ j, r[j]? = ops[i0 + 1 + j]? := fun j => by
   have := hr (j + 1)
   simpa [Nat.add_assoc, Nat.add_comm 1 j] using this
  have hlen' : i0 + 1 + r.length = ops.size := by simp at hlen; omega
  have hpre1 : ∀ j, Pre ops j i0 → j < i0 := fun j h => hpre i0 j hil h
  have hpre2 : ∀ j, i0 < ops.size → j < ops.size → Pre ops i0 j → i0 < j := fun j _ hj h => hpre j i0 hj h
  have hEi : i0 ∈ E ↔ inf.e = true := by
   rw [hE, eIdx_mem, hs.e]
   constructor
   ·rintro ⟨o', h1, h2⟩; rw [ho] at h1; cases h1; exact h2
   ·exact fun h => ⟨o, ho, h⟩
  -- what is common: the rest, from whatever this operation yields
  have fin : ∀ (v : VV) (bi : Bool) (ai : Nat) (k1 na1 : Nat) (mems1 : Nat → Mem) (past1 : List Mem) (pd1 : Pds) (e1 : Env), vput nt o.dst v e = some e1 → vwanted ops o (prune (tmpsOf ops o) e) = some bi → (k1 = if inf.e = true then k0 + 1 else k0) → (∀ k, k ≤ k0 → mems1 k = mems0 k) → na ≤ na1 →
    past1.length = k1 → (∀ j, j < k1 → past1[j]? = some (mems1 (k1 - 1 - j))) → WDraw P T nt ops r s e1 na1 (mems1 k1) past1 pd1 Kn → (isA o = true → bi = true → ai = na ∧ na1 = na + 1) →
    (∀ (mems : Nat → Mem), (∀ k, k ≤ k1 → mems k = mems1 k) → (∀ n c, (n, c) ∈ pd1 → ∀ k, k1 < k → k ≤ k1 + n → k ≤ E.length → c (mems k)) →
     (∀ n c, (n, c) ∈ pd → ∀ k, k0 < k → k ≤ k0 + n → k ≤ E.length → c (mems k)) ∧
     (bi = false → v = .tup [] ∧ ∀ k, E[k]? = some i0 → mems (k + 1) = mems k) ∧
     (bi = true →
      (∃ t y, o.op = .alloc t ∧ T.ty t = some y ∧ i0 ∉ E ∧ v = .ptr ai 0 ∧ n0 ≤ ai ∧ ∀ k, k ≤ k0 + inf.fw → k ≤ E.length → (mems k).H[ai]? = some (.obj (y.zero.map ofValue))) ∨
      (isA o = false ∧ ∃ k, E[k]? = some i0 ∧ WOp P T o (prune (tmpsOf ops o) e) (mems k) (fun v' M' => v' = v ∧ M' = mems (k + 1))) ∨
      (isA o = false ∧ i0 ∉ E ∧ ∀ k, k0 - inf.bk ≤ k → k ≤ k0 + inf.fw → k ≤ E.length → vop T o.op (ev (prune (tmpsOf ops o) e)) (mems k) = some (v, mems k)))) →
    ∃ vals mems er lo hi b aid e', Out P T nt ops e00 n0 E i0 k0 na pd Kn vals0 mems0 er0 lo0 hi0 b0 aid0 vals mems er lo hi b aid e' := by
   intro v bi ai k1 na1 mems1 past1 pd1 e1 hput hwt hk1 hm1 hna1 hp1 hpg1 hw1 hai hfacts
   obtain ⟨henv1, hdst⟩ := henv.put ho hput
   have hpl1' : plansOk ops pm E (i0 + 1) k1 r s = true := by
    rw [hk1]
    cases he : inf.e with
    | true => rw [he] at hpl1; simpa using hpl1
    | false => rw [he] at hpl1; simpa using hpl1
   obtain ⟨vals, mems, er, lo, hi, b, aid, e', hO⟩ := WDraw_out hpm hpre hE r s (i0 + 1) k1 e1 na1 past1 pd1 (fset vals0 i0 v) mems1 (fset er0 i0 (prune (tmpsOf ops o) e)) (fset lo0 i0 (k0 - inf.bk)) (fset hi0 i0 (k0 + inf.fw)) (fset b0 i0 bi) (fset aid0 i0 ai)
    hrest hlen' hpl1' (by omega) hp1 hpg1 henv1 hw1
   obtain ⟨f1, f2, f3⟩ := hfacts mems hO.amem hO.pds
   have a := hO.agree i0 (by omega)
   simp only [fset_same] at a
   obtain ⟨a1, a2, a3, a4, a5, a6⟩ := a
   have hle : k0 ≤ k1 := by rw [hk1]; split <;> omega
   have here : OpF P T nt ops e00 n0 E vals mems er lo hi b aid i0 o := by
    refine opF_here (e := e) hs hpre1 hpre2 ho (henv.congr fun j hj => ?_) a2 a3 a4 hdst (by rw [a5]; exact hwt) (by rw [a5, a1]; exact f2) ?_
    ·have := (hO.agree j (by omega)).1
     rw [this, fset_ne _ _ (by omega)]
    ·rw [a5, a1, a2, a3, a4, a6]
     exact f3
   refine ⟨vals, mems, er, lo, hi, b, aid, e', fun j hj => ?_, fun k hk => (hO.amem k (by omega)).trans (hm1 k hk), f1, fun i o' hi' ho' => ?_, fun i o' hi' ho' hA hb => ?_, fun i j o1 o2 hi' hij h1 h2 hA hA2 hb hb2 => ?_, hO.env, hO.fin⟩
   ·obtain ⟨q1, q2, q3, q4, q5, q6⟩ := hO.agree j (by omega)
    rw [fset_ne _ _ (by omega)] at q1 q2 q3 q4 q5 q6
    exact ⟨q1, q2, q3, q4, q5, q6⟩
   ·rcases Nat.eq_or_lt_of_le hi' with h | h
    ·subst h; rw [ho] at ho'; cases ho'; exact here
    ·exact hO.facts i o' h ho'
   ·rcases Nat.eq_or_lt_of_le hi' with h | h
    ·subst h
     rw [ho] at ho'
     cases ho'
     rw [a5] at hb
     rw [a6, (hai hA hb).1]
     exact Nat.le_refl _
    ·have := hO.aids i o' h ho' hA hb
     omega
   ·rcases Nat.eq_or_lt_of_le hi' with h | h
    ·subst h
     rw [ho] at h1
     cases h1
     rw [a5] at hb
     obtain ⟨z1, z2⟩ := hai hA hb
     have := hO.aids j o2 (by omega) h2 hA2 hb2
     rw [a6, z1]
     omega
    ·exact hO.aids2 i j o1 o2 h hij h1 h2 hA hA2 hb hb2
  have hEk : inf.e = true → ∀ k, E[k]? = some i0 → k = k0 := fun he k hk => by
   have h2 := (hs.ee he).2
   have hnd : E.Nodup := by rw [hE]; exact eIdx_nodup ops
   exact (List.getElem?_inj (List.getElem?_eq_some_iff.1 hk).1 hnd).1 (hk.trans h2.symm)
  have hpastE : ∀ (M' : Mem), (mems0 k0 :: past).length = k0 + 1 ∧ ∀ j, j < k0 + 1 → (mems0 k0 :: past)[j]? = some (fset mems0 (k0 + 1) M' (k0 + 1 - 1 - j)) := fun M' => by
   refine ⟨by simp [hpast], fun j hj => ?_⟩
   rw [fset_ne _ _ (by omega)]
   cases j with
   | zero => simp
   | succ j =>
    rw [List.getElem?_cons_succ, hpg j (by omega)]
    congr 2
    omega
  have hpdE : ∀ (M' : Mem) (mems : Nat → Mem), pdOk pd M' → (∀ k, k ≤ k0 + 1 → mems k = fset mems0 (k0 + 1) M' k) → (∀ n c, (n, c) ∈ pdTick pd → ∀ k, k0 + 1 < k → k ≤ k0 + 1 + n → k ≤ E.length → c (mems k)) →
    ∀ n c, (n, c) ∈ pd → ∀ k, k0 < k → k ≤ k0 + n → k ≤ E.length → c (mems k) := by
   intro M' mems hok hm htick n c hmem k h1 h2 h3
   rcases Nat.eq_or_lt_of_le (show k0 + 1 ≤ k from h1) with h | h
   ·subst h
    rw [hm _ (Nat.le_refl _), fset_same]
    exact pdOk_mem hok n c hmem
   ·obtain ⟨n', rfl⟩ : ∃ n', n = n' + 2 := ⟨n - 2, by omega⟩
    exact htick (n' + 1) c (pdTick_mem hmem) k h (by omega) h3
  simp only [WDraw] at hw
  split at hw
  ·cases hw
  ·-- not wanted
   rename_i hwt
   split at hw
   ·rename_i e1 hput
    split at hw
    ·rename_i he
     obtain ⟨hok, hw⟩ := hw
     obtain ⟨p1, p2⟩ := hpastE (mems0 k0)
     refine fin (.tup []) false 0 (k0 + 1) na (fset mems0 (k0 + 1) (mems0 k0)) (mems0 k0 :: past) (pdTick pd) e1 hput hwt (by rw [if_pos he]) (fun k hk => fset_ne _ _ (by omega)) (Nat.le_refl _) p1 p2 (by rw [fset_same]; exact hw) (fun hA => by rw [(hs.ee he).1] at hA; cases hA) ?_
     intro mems hm hpd
     refine ⟨hpdE _ mems hok hm hpd, fun _ => ⟨rfl, fun k hk => ?_⟩, fun h => by cases h⟩
     rw [hEk he k hk, hm _ (Nat.le_refl _), fset_same, hm k0 (by omega), fset_ne _ _ (by omega)]
    ·rename_i he
     refine fin (.tup []) false 0 k0 na mems0 past pd e1 hput hwt (by rw [if_neg he]) (fun _ _ => rfl) (Nat.le_refl _) hpast hpg hw (fun _ h => by cases h) ?_
     intro mems hm hpd
     exact ⟨hpd, fun _ => ⟨rfl, fun k hk => absurd (hEi.1 (List.mem_of_getElem? hk)) he⟩, fun h => by cases h⟩
   ·cases hw
  ·rename_i hwt
   split at hw
   ·-- a variable
    rename_i hA
    split at hw
    ·rename_i t hop
     split at hw
     ·rename_i y hy
      split at hw
      ·rename_i e1 hput
       obtain ⟨hc, hback, hw⟩ := hw
       have he : inf.e ≠ true := fun he => by rw [(hs.ee he).1] at hA; cases hA
       refine fin (.ptr na 0) true na k0 (na + 1) mems0 past _ e1 hput hwt (by rw [if_neg he]) (fun _ _ => rfl) (Nat.le_succ _) hpast hpg hw (fun _ _ => ⟨rfl, rfl⟩) ?_
       intro mems hm hpd
       refine ⟨fun n c hmem => hpd n c ?_, fun h => (by cases h), fun _ => .inl ⟨t, y, hop, hy, fun h => he (hEi.1 h), rfl, hna, fun k hk hkE => ?_⟩⟩
       ·exact pdPush_old hmem
       ·rcases Nat.lt_trichotomy k k0 with h | h | h
        ·rw [hm k (by omega)]
         have := Back_get hback (k0 - 1 - k) (by omega) (mems0 (k0 - 1 - (k0 - 1 - k))) (hpg _ (by omega))
         rwa [show k0 - 1 - (k0 - 1 - k) = k by omega] at this
        ·subst h; rw [hm k (Nat.le_refl _)]; exact hc
        ·refine hpd inf.fw (fun M => M.H[na]? = some (.obj (y.zero.map ofValue))) ?_ k h hk hkE
         exact pdPush_here (by omega)
      ·cases hw
     ·cases hw
    ·cases hw
   ·rename_i hA
    have hA' : isA o = false := by simpa using hA
    split at hw
    ·-- an effect
     rename_i he
     obtain ⟨v, M', hwop, hok, hw⟩ := hw
     split at hw
     ·rename_i e1 hput
      obtain ⟨p1, p2⟩ := hpastE M'
      refine fin v true 0 (k0 + 1) na (fset mems0 (k0 + 1) M') (mems0 k0 :: past) (pdTick pd) e1 hput hwt (by rw [if_pos he]) (fun k hk => fset_ne _ _ (by omega)) (Nat.le_refl _) p1 p2 (by rw [fset_same]; exact hw) (fun h => by rw [hA'] at h; cases h) ?_
      intro mems hm hpd
      refine ⟨hpdE _ mems hok hm hpd, fun h => (by cases h), fun _ => .inr (.inl ⟨hA', k0, (hs.ee he).2, ?_⟩)⟩
      rw [hm k0 (by omega), fset_ne _ _ (by omega), hm _ (Nat.le_refl _), fset_same]
      exact hwop
     ·cases hw
    ·rename_i he
     have heI : isE o = false := by rw [← hs.e]; simpa using he
     split at hw
     ·rename_i v M' hv
      obtain ⟨hMM, hw⟩ := hw
      have hv' := vop_mem hv hMM
      split at hw
      ·rename_i e1 hput
       split at hw
       ·rename_i hrd
        obtain ⟨hback, hw⟩ := hw
        refine fin v true 0 k0 na mems0 past _ e1 hput hwt (by rw [if_neg he]) (fun _ _ => rfl) (Nat.le_refl _) hpast hpg hw (fun h => by rw [hA'] at h; cases h) ?_
        intro mems hm hpd
        refine ⟨fun n c hmem => hpd n c ?_, fun h => (by cases h), fun _ => .inr (.inr ⟨hA', fun h => he (hEi.1 h), fun k hk1 hk hkE => ?_⟩)⟩
        ·exact pdPush_old hmem
        ·rcases Nat.lt_trichotomy k k0 with h | h | h
         ·rw [hm k (by omega)]
          have := Back_get hback (k0 - 1 - k) (by have := hs.bk; omega) (mems0 (k0 - 1 - (k0 - 1 - k))) (hpg _ (by omega))
          rwa [show k0 - 1 - (k0 - 1 - k) = k by omega] at this
         ·subst h; rw [hm k (Nat.le_refl _)]; exact hv'
         ·refine hpd inf.fw (fun M => vop T o.op (ev (prune (tmpsOf ops o) e)) M = some (v, M)) ?_ k h hk hkE
          exact pdPush_here (by omega)
       ·rename_i hrd
        refine fin v true 0 k0 na mems0 past pd e1 hput hwt (by rw [if_neg he]) (fun _ _ => rfl) (Nat.le_refl _) hpast hpg hw (fun h => by rw [hA'] at h; cases h) ?_
        intro mems hm hpd
        exact ⟨hpd, fun h => (by cases h), fun _ => .inr (.inr ⟨hA', fun h => he (hEi.1 h), fun k _ _ _ => not_rdr hv' (by simpa using hrd) heI hA' _⟩)⟩
      ·cases hw
     ·cases hw
 | [], _ :: _, _, _, _, _, _, _, _, _, _, _, _, _, _, _, _, hpl, _, _, _, _, _ => by simp [plansOk] at hpl
 | _ :: _, [], _, _, _, _, _, _, _, _, _, _, _, _, _, _, _, hpl, _, _, _, _, _ => by simp [plansOk] at hpl
end
end Go.Proofs.Ythcicaelnchfdaa.Vm
