/- A part of the proofs about the chapter of the doors; it states no condition of its own. -/
import Derived.Test.YtmagiabapakhcaaB23
set_option linter.unusedVariables false
set_option linter.unusedSimpArgs false
/- A machine on values: regions whose order is drawn: the rule, made of one order. -/
namespace Go.Proofs.Ytmagiabapakhcaa.Vm
open Go

abbrev Pds := List (Nat × (Mem → Prop))
def pdOk : Pds → Mem → Prop
  | [], _ => True
  | (_, c) :: r, M => c M ∧ pdOk r M
def pdTick : Pds → Pds
  | [] => []
  | (0, _) :: r => pdTick r
  | (1, _) :: r => pdTick r
  | (n + 2, c) :: r => (n + 1, c) :: pdTick r
def pdPush (n : Nat) (c : Mem → Prop) (pd : Pds) : Pds := match n with
  | 0 => pd
  | n + 1 => (n + 1, c) :: pd
theorem pdPush_here {n : Nat} {c : Mem → Prop} {pd : Pds} (h : 0 < n) : (n, c) ∈ pdPush n c pd := by
  cases n with
  | zero => omega
  | succ n => exact List.mem_cons_self ..
theorem pdPush_old {n : Nat} {c : Mem → Prop} {pd : Pds} {x : Nat × (Mem → Prop)} (h : x ∈ pd) : x ∈ pdPush n c pd := by
  cases n with
  | zero => exact h
  | succ n => exact List.mem_cons_of_mem _ h
def Back (c : Mem → Prop) : Nat → List Mem → Prop
  | 0, _ => True
  | _ + 1, [] => True
  | n + 1, M :: r => c M ∧ Back c n r
theorem pdOk_mem : ∀ {pd : Pds} {M : Mem}, pdOk pd M → ∀ n c, (n, c) ∈ pd → c M
  | (_, c) :: r, M, h, n, c', hm => by
    rcases List.mem_cons.1 hm with e | hm
    · cases e; exact h.1
    · exact pdOk_mem h.2 n c' hm
theorem pdTick_mem : ∀ {pd : Pds} {n : Nat} {c : Mem → Prop}, (n + 2, c) ∈ pd → (n + 1, c) ∈ pdTick pd
  | (m, c') :: r, n, c, hm => by
    rcases List.mem_cons.1 hm with e | hm
    · cases e; simp [pdTick]
    · have := pdTick_mem hm
      match m with
      | 0 => exact this
      | 1 => exact this
      | m + 2 => exact List.mem_cons_of_mem _ this
theorem Back_get {c : Mem → Prop} : ∀ {n : Nat} {past : List Mem}, Back c n past → ∀ j, j < n → ∀ M, past[j]? = some M → c M
  | 0, _, _, j, hj, _, _ => absurd hj (Nat.not_lt_zero _)
  | n + 1, [], _, j, _, M, h => by simp at h
  | n + 1, M0 :: r, hb, 0, _, M, h => by cases h; exact hb.1
  | n + 1, M0 :: r, hb, j + 1, hj, M, h => Back_get hb.2 j (by omega) M (by simpa using h)

section
variable (P : Program) (T : Tab) (nt : Nat) (ops : Array Oper)
def WDraw : List Oper → List Info → Env → Nat → Mem → List Mem → Pds → (Env → Mem → Prop) → Prop
  | o :: r, inf :: s, e, na, M, past, pd, Kn =>
    match vwanted ops o (prune (tmpsOf ops o) e) with
    | none => False
    | some false => match vput nt o.dst (.tup []) e with
      | some e' => if inf.e = true then pdOk pd M ∧ WDraw r s e' na M (M :: past) (pdTick pd) Kn else WDraw r s e' na M past pd Kn
      | none => False
    | some true =>
      if isA o = true then match o.op with
        | .alloc t => match T.ty t with
          | some y => match vput nt o.dst (.ptr na 0) e with
            | some e' => M.H[na]? = some (.obj (y.zero.map ofValue)) ∧ Back (fun M => M.H[na]? = some (.obj (y.zero.map ofValue))) past.length past ∧
                WDraw r s e' (na + 1) M past (pdPush inf.fw (fun M => M.H[na]? = some (.obj (y.zero.map ofValue))) pd) Kn
            | none => False
          | none => False
        | _ => False
      else if inf.e = true then ∃ v M', WOp P T o (prune (tmpsOf ops o) e) M (fun v' M'' => v' = v ∧ M'' = M') ∧ pdOk pd M' ∧ (match vput nt o.dst v e with
        | some e' => WDraw r s e' na M' (M :: past) (pdTick pd) Kn
        | none => False)
      else match vop T o.op (ev (prune (tmpsOf ops o) e)) M with
        | some (v, M') => M' = M ∧ match vput nt o.dst v e with
          | some e' => if rdr o.op = true then Back (fun M => vop T o.op (ev (prune (tmpsOf ops o) e)) M = some (v, M)) inf.bk past ∧
              WDraw r s e' na M past (pdPush inf.fw (fun M => vop T o.op (ev (prune (tmpsOf ops o) e)) M = some (v, M)) pd) Kn
            else WDraw r s e' na M past pd Kn
          | none => False
        | none => False
  | [], [], e, _, M, _, _, Kn => Kn e M
  | _, _, _, _, _, _, _, _ => False

/-- an environment, as it is ahead of operation i -/
def EnvAt (e0 : Env) (vals : Nat → VV) (i : Nat) (e : Env) : Prop := ∀ t, (∃ (j : Nat) (o : Oper), j < i ∧ ops[j]? = some o ∧ o.dst = some t ∧ get e t = vals j) ∨ ((∀ (j : Nat) (o : Oper), j < i → ops[j]? = some o → o.dst ≠ some t) ∧ get e t = get e0 t)
structure OpF (e0 : Env) (n0 : Nat) (E : List Nat) (vals : Nat → VV) (mems : Nat → Mem) (er : Nat → Env) (lo hi : Nat → Nat) (b : Nat → Bool) (aid : Nat → Nat) (i : Nat) (o : Oper) : Prop where
  dst : ∀ (d : Nat), o.dst = some d → d < nt
  ers : ∀ (t : Nat), get (er i) t = .any ∨ ((∀ (j : Nat) (o' : Oper), ops[j]? = some o' → o'.dst = some t → Pre ops j i ∨ Pre ops i j ∨ j = i) ∧
    ((∃ (j : Nat) (o' : Oper), Pre ops j i ∧ ops[j]? = some o' ∧ o'.dst = some t ∧ get (er i) t = vals j) ∨ ((∀ (j : Nat) (o' : Oper), Pre ops j i → ops[j]? = some o' → o'.dst ≠ some t) ∧ get (er i) t = get e0 t)))
  los : lo i = 0 ∨ ∃ x, E[lo i - 1]? = some x ∧ Pre ops x i
  his : E.length ≤ hi i ∨ ∃ x, E[hi i]? = some x ∧ (Pre ops i x ∨ x = i)
  guard : vwanted ops o (er i) = some (b i)
  skip : b i = false → vals i = .tup [] ∧ ∀ k, E[k]? = some i → mems (k + 1) = mems k
  op : b i = true →
      (∃ t y, o.op = .alloc t ∧ T.ty t = some y ∧ i ∉ E ∧ vals i = .ptr (aid i) 0 ∧ n0 ≤ aid i ∧ ∀ k, k ≤ hi i → k ≤ E.length → (mems k).H[aid i]? = some (.obj (y.zero.map ofValue))) ∨
      (isA o = false ∧ ∃ k, E[k]? = some i ∧ WOp P T o (er i) (mems k) (fun v M' => v = vals i ∧ M' = mems (k + 1))) ∨
      (isA o = false ∧ i ∉ E ∧ ∀ k, lo i ≤ k → k ≤ hi i → k ≤ E.length → vop T o.op (ev (er i)) (mems k) = some (vals i, mems k))
end

theorem get_prune' (vs : List Nat) (e : Env) (t : Nat) : get (prune vs e) t = .any ∨ (t ∈ vs ∧ get (prune vs e) t = get e t) := by
  unfold prune
  induction vs with
  | nil => exact .inl rfl
  | cons v vs ih =>
    simp only [List.map_cons, get_cons]
    by_cases h : t = v
    · rw [if_pos h, h]; exact .inr ⟨by simp, rfl⟩
    · rw [if_neg h]; exact ih.imp_right fun h => ⟨by simp [h.1], h.2⟩
theorem EnvAt.put {ops : Array Oper} {e0 : Env} {vals : Nat → VV} {i : Nat} {e e' : Env} {o : Oper} {nt : Nat} {v : VV} (h : EnvAt ops e0 vals i e) (ho : ops[i]? = some o) (hp : vput nt o.dst v e = some e') :
    EnvAt ops e0 (fun j => if j = i then v else vals j) (i + 1) e' ∧ ∀ d, o.dst = some d → d < nt := by
  unfold vput at hp
  cases hd : o.dst with
  | none =>
    rw [hd] at hp
    cases hp
    refine ⟨fun t => ?_, fun d h => by cases h⟩
    rcases h t with ⟨j, o', h1, h2, h3, h4⟩ | ⟨h1, h2⟩
    · exact .inl ⟨j, o', by omega, h2, h3, by show get e t = (if j = i then v else vals j); rw [if_neg (by omega)]; exact h4⟩
    · refine .inr ⟨fun j o' hj ho' hd' => ?_, h2⟩
      rcases Nat.lt_or_ge j i with hlt | hge
      · exact h1 j o' hlt ho' hd'
      · have : j = i := by omega
        subst this
        rw [ho] at ho'
        cases ho'
        rw [hd] at hd'
        cases hd'
  | some d =>
    rw [hd] at hp
    simp only at hp
    cases hb : Nat.blt d nt with
    | false => rw [hb] at hp; cases hp
    | true =>
      rw [hb] at hp
      cases hp
      refine ⟨fun t => ?_, fun d' h => by cases h; simpa [Nat.blt_eq] using hb⟩
      rw [get_cons]
      by_cases ht : t = d
      · subst ht
        exact .inl ⟨i, o, by omega, ho, hd, by simp⟩
      · rw [if_neg ht]
        rcases h t with ⟨j, o', h1, h2, h3, h4⟩ | ⟨h1, h2⟩
        · exact .inl ⟨j, o', by omega, h2, h3, by show get e t = (if j = i then v else vals j); rw [if_neg (by omega)]; exact h4⟩
        · refine .inr ⟨fun j o' hj ho' hd' => ?_, h2⟩
          rcases Nat.lt_or_ge j i with hlt | hge
          · exact h1 j o' hlt ho' hd'
          · have : j = i := by omega
            subst this
            rw [ho] at ho'
            cases ho'
            rw [hd] at hd'
            cases hd'
            exact ht rfl

/-- what a plan says of one operation -/
structure Static (ops : Array Oper) (E : List Nat) (i k : Nat) (o : Oper) (inf : Info) : Prop where
  edge : ∀ e ∈ o.after, Region.binds .any e = true → e.on < i
  tm : ∀ t ∈ tmpsOf ops o, ∀ (j : Nat) (o' : Oper), ops[j]? = some o' → o'.dst = some t → Pre ops j i ∨ Pre ops i j ∨ j = i
  e : inf.e = isE o
  bk : inf.bk ≤ k
  lo : k - inf.bk = 0 ∨ ∃ x, E[k - inf.bk - 1]? = some x ∧ Pre ops x i
  hi : E.length ≤ k + inf.fw ∨ ∃ x, E[k + inf.fw]? = some x ∧ (Pre ops i x ∨ x = i)
  ee : inf.e = true → isA o = false ∧ E[k]? = some i
theorem opPlan_ok {ops : Array Oper} {pm E : List Nat} (hpm : ∀ k j, Nat.testBit (pm.getD k 0) j = true → Pre ops j k) {i k : Nat} {o : Oper} {inf : Info} (h : opPlan ops pm E i k o inf = true) : Static ops E i k o inf := by
  simp only [opPlan, Bool.and_eq_true] at h
  obtain ⟨⟨⟨⟨⟨⟨h1, h2⟩, h3⟩, h4⟩, h5⟩, h6⟩, h7⟩ := h
  refine ⟨fun e he hb => ?_, fun t ht j o' ho' hd => ?_, by simpa using h3, by simpa [Nat.ble_eq] using h4, ?_, ?_, fun he => ?_⟩
  · have := List.all_eq_true.1 h1 e (by simpa using he)
    simpa [hb, Nat.blt_eq] using this
  · have := List.all_eq_true.1 (List.all_eq_true.1 h2 t ht) j (List.mem_range.2 (Array.getElem?_eq_some_iff.1 ho').1)
    rw [ho'] at this
    simp only [hd] at this
    simp only [Nat.beq_refl, Bool.not_true, Bool.false_or, Bool.or_eq_true] at this
    rcases this with (h | h) | h
    · exact .inl (hpm _ _ h)
    · exact .inr (.inl (hpm _ _ h))
    · exact .inr (.inr (Nat.eq_of_beq_eq_true h))
  · rcases (Bool.or_eq_true_iff ..).1 h5 with h | h
    · exact .inl (Nat.eq_of_beq_eq_true h)
    · split at h
      · rename_i x hx
        exact .inr ⟨x, hx, hpm _ _ h⟩
      · cases h
  · split at h6
    · rename_i x hx
      refine .inr ⟨x, hx, ?_⟩
      rcases (Bool.or_eq_true_iff ..).1 h6 with h | h
      · exact .inl (hpm _ _ h)
      · exact .inr (Nat.eq_of_beq_eq_true h)
    · rename_i hx
      exact .inl (List.getElem?_eq_none_iff.1 hx)
  · rw [he] at h7
    simp only [Bool.not_true, Bool.false_or, Bool.and_eq_true, Bool.not_eq_true'] at h7
    refine ⟨h7.1.2, ?_⟩
    have := h7.2
    split at this
    · rename_i x hx
      rw [hx, Nat.eq_of_beq_eq_true this]
    · cases this
end Go.Proofs.Ytmagiabapakhcaa.Vm
