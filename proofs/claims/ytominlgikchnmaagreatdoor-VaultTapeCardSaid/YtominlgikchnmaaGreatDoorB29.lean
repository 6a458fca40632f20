/- A part of the proofs about the chapter of the vaults; it states no condition of its own. -/
import Derived.Test.YtominlgikchnmaaGreatDoorB27
import Derived.Test.YtominlgikchnmaaGreatDoorB28
set_option linter.unusedVariables false
set_option linter.unusedSimpArgs false
/- The reference's number, on values. (Vm) -/
namespace Go.Proofs.YtominlgikchnmaaGreatDoor.Vm
open Go Go.Proofs
end Go.Proofs.YtominlgikchnmaaGreatDoor.Vm

/- Plain: a row of a word and numbers, as it is read. -/
namespace Go.Proofs.YtominlgikchnmaaGreatDoor
open Go
def numsR (m : Nat) : List By → Option (List Int)
  | [] => some []
  | w :: ws => match numR m w, numsR m ws with
    | some n, some l => some (n :: l)
    | _, _ => none
theorem numsR_app (m : Nat) : ∀ (a b : List By), numsR m (a ++ b) = match numsR m a, numsR m b with
    | some l, some k => some (l ++ k)
    | _, _ => none
  | [], b => by
    simp only [List.nil_append, numsR]
    cases numsR m b <;> rfl
  | w :: a, b => by
    simp only [List.cons_append, numsR, numsR_app m a b]
    cases numR m w <;> cases numsR m a <;> cases numsR m b <;> rfl
theorem numsR_len {m : Nat} : ∀ {ws : List By} {l : List Int}, numsR m ws = some l → l.length = ws.length
  | [], l, h => by cases h; rfl
  | w :: ws, l, h => by
    simp only [numsR] at h
    split at h
    · rename_i n k h1 h2
      cases h
      rw [List.length_cons, List.length_cons, numsR_len h2]
    · cases h
/-- the word and the numbers of a row -/
def parseR (m : Nat) (s : By) : Option (By × List Int) := (numsR m ((cutL 32 s).drop 1)).map fun l => ((cutL 32 s).headD [], l)
theorem cutL_pos (c : UInt8) (s : By) : 0 < (cutL c s).length := List.length_pos_iff.2 (cutL_ne c s)
theorem cutL_len (c : UInt8) : ∀ s : By, (cutL c s).length ≤ s.length + 1
  | [] => by simp [cutL]
  | x :: r => by
    have := cutL_len c r
    rw [cutL]
    split
    · simp; omega
    · split
      · simp
      · rename_i p ps he
        rw [he] at this
        simp at this ⊢
        omega
theorem cutL_part (c : UInt8) : ∀ (s : By), ∀ p ∈ cutL c s, p.length ≤ s.length
  | [], p, h => by simp [cutL] at h; simp [h]
  | x :: r, p, h => by
    have ih := cutL_part c r
    rw [cutL] at h
    split at h
    · rcases List.mem_cons.1 h with rfl | h
      · simp
      · have := ih p h; simp; omega
    · split at h
      · rename_i he
        exact absurd he (cutL_ne c r)
      · rename_i q qs he
        rw [he] at ih
        rcases List.mem_cons.1 h with rfl | h
        · have := ih q (by simp); simp; omega
        · have := ih p (List.mem_cons_of_mem _ h); simp; omega
end Go.Proofs.YtominlgikchnmaaGreatDoor

/- The reference's parse, on values. (Vm) -/
namespace Go.Proofs.YtominlgikchnmaaGreatDoor.Vm
open Go Go.Proofs
theorem own_ret3t {T : Tab} {f : Nat} {fn : Func} {M : Mem} {L : List VObj} {e : Env} {t t' t'' : Nat} {X Y Z : VV} (h1 : fn.results.toList = [.tmp t, .tmp t', .tmp t'']) (hr : frz M.H.length (M.H ++ L) (get e t) = X) (hr' : frz M.H.length (M.H ++ L) (get e t') = Y) (hr'' : frz M.H.length (M.H ++ L) (get e t'') = Z) (h2 : refs X = []) (h2' : refs Y = []) (h2'' : refs Z = []) : ownQ T f fn M (fun r M' => M' = M ∧ r = .tup [X, Y, Z]) .ret e ⟨M.H ++ L, M.lg⟩ [] :=
  own_ret (vs := [get e t, get e t', get e t'']) (by rw [h1]; rfl) (by simp only [vtup, frz, frzL, hr, hr', hr'']) (by simp [refs, refsL, h2, h2', h2'']) ⟨rfl, rfl⟩
/-- what parse gives -/
def parseT (m : Nat) (s : By) : VV := match parseR m s with
  | some (w, l) => .tup [vs w, intsV l, vb true]
  | none => .tup [vs [], .p (.sl 0 []), vb false]
structure ParS where
  i : Nat
  l : List Int
end Go.Proofs.YtominlgikchnmaaGreatDoor.Vm

/- Plain: what is read of a drawing. -/
namespace Go.Proofs.YtominlgikchnmaaGreatDoor
open Go
def y0 : Ha := ⟨0, 0, [], [], ⟨0, 0⟩, [], []⟩
def plOf (l : List Int) : Pl := ⟨l.getD 0 0, l.getD 1 0⟩
def kiOf (l : List Int) : Ki := ⟨l.getD 0 0, l.getD 1 0, decide (l.getD 2 0 = 1), l.drop 5, l.getD 3 0, l.getD 4 0⟩
def haOf (h : Ha) (l : List Int) : Ha := { h with wide := l.getD 0 0, deep := l.getD 1 0, bay := ⟨l.getD 2 0, l.getD 3 0⟩ }
/-- a row of a word and numbers -/
def rsPut (i : Nat) (h : Ha) (w : By) (l : List Int) : Option (Ha × Bool) :=
  if i = 0 then (if w = wHall ∧ l.length = 4 then some (haOf h l, false) else none)
  else if w = wWater ∧ l.length = 2 ∧ h.shut.length + h.bears.length + h.kinds.length = 0 then some ({ h with water := h.water ++ [plOf l] }, false)
  else if w = wShut ∧ l.length = 2 ∧ h.bears.length + h.kinds.length = 0 then some ({ h with shut := h.shut ++ [plOf l] }, false)
  else if w = wBears ∧ l.length = 1 ∧ h.kinds.length = 0 then some ({ h with bears := h.bears ++ [l.getD 0 0] }, false)
  else if w = wKind ∧ 5 ≤ l.length ∧ l.getD 2 0 < 2 then some ({ h with kinds := h.kinds ++ [kiOf l] }, false)
  else if w = wEnd ∧ l.length = 1 then (if l.getD 0 0 = (h.kinds.length : Int) then some (h, true) else none)
  else none
def rsStep (i : Nat) (st : Ha × Bool) (row : By) : Option (Ha × Bool) := match parseR 8 row with
  | none => none
  | some (w, l) => if st.2 then none else rsPut i st.1 w l
/-- the rows, one after the other: the first that is wrong, or what is read -/
def rsRun : Nat → Ha × Bool → List By → Nat ⊕ (Ha × Bool)
  | _, st, [] => .inr st
  | i, st, r :: rs => match rsStep i st r with
    | none => .inl i
    | some st' => rsRun (i + 1) st' rs
def rsEnd (rows : List By) (st : Ha × Bool) : Ha × Int × Int :=
  if st.2 = false ∨ rows.getD (rows.length - 1) [] ≠ [] then (y0, (rows.length : Int), 2)
  else if hallErr st.1 = 0 then (st.1, 0, 0) else (y0, 0, hallErr st.1)
def rsRead (s : By) : Ha × Int × Int :=
  if 2500 < s.length then (y0, 0, 10)
  else match rsRun 0 (y0, false) ((cutL 10 s).take ((cutL 10 s).length - 1)) with
    | .inl i => (y0, (i : Int) + 1, 2)
    | .inr st => rsEnd (cutL 10 s) st
theorem rsRun_app : ∀ (a b : List By) (i : Nat) (st : Ha × Bool), rsRun i st (a ++ b) = match rsRun i st a with
    | .inl k => .inl k
    | .inr st' => rsRun (i + a.length) st' b
  | [], b, i, st => rfl
  | r :: a, b, i, st => by
    simp only [List.cons_append, rsRun]
    cases rsStep i st r with
    | none => rfl
    | some st' =>
      simp only
      rw [rsRun_app a b (i + 1) st', List.length_cons, show i + 1 + a.length = i + (a.length + 1) by omega]
/-- one row more -/
theorem rsRun_step {rows : List By} {i : Nat} {st : Ha × Bool} (hi : i < rows.length) (h : rsRun 0 (y0, false) (rows.take i) = .inr st) : rsRun 0 (y0, false) (rows.take (i + 1)) = match rsStep i st rows[i] with
    | none => .inl i
    | some st' => .inr st' := by
  rw [List.take_succ_eq_append_getElem hi, rsRun_app, h]
  simp only
  rw [show 0 + (rows.take i).length = i by rw [List.length_take]; omega]
  simp only [rsRun]
theorem rsRun_bad {rows : List By} {i n k : Nat} (hn : i ≤ n) (h : rsRun 0 (y0, false) (rows.take i) = .inl k) : rsRun 0 (y0, false) (rows.take n) = .inl k := by
  have e : rows.take n = rows.take i ++ (rows.drop i).take (n - i) := by
    rw [show n = i + (n - i) by omega, List.take_add]
    simp
  rw [e, rsRun_app, h]
/-- a hall that is read is not great -/
structure RsOk (i : Nat) (y : Ha) : Prop where
  w : y.water.length ≤ i
  s : y.shut.length ≤ i
  b : y.bears.length ≤ i
  c : y.kinds.length ≤ i
  l : ∀ c ∈ y.kinds, c.away.length ≤ 100000
theorem parseR_len {m : Nat} {s w : By} {l : List Int} (h : parseR m s = some (w, l)) : l.length ≤ s.length := by
  unfold parseR at h
  obtain ⟨k, h1, h2⟩ := Option.map_eq_some_iff.1 h
  cases h2
  rw [numsR_len h1, List.length_drop]
  have := cutL_len 32 s
  omega
theorem rsPut_ok {i : Nat} {y y' : Ha} {b : Bool} {w : By} {l : List Int} (h : rsPut i y w l = some (y', b)) (hy : RsOk i y) (hl : l.length ≤ 100000) : RsOk (i + 1) y' := by
  have hw := hy.w
  have hs := hy.s
  have hb := hy.b
  have hc := hy.c
  have hl' := hy.l
  unfold rsPut at h
  split at h
  · split at h
    · cases h; exact ⟨by simp only [haOf]; omega, by simp only [haOf]; omega, by simp only [haOf]; omega, by simp only [haOf]; omega, hl'⟩
    · cases h
  · split at h
    · cases h; exact ⟨by simp; omega, by simp only; omega, by simp only; omega, by simp only; omega, hl'⟩
    · split at h
      · cases h; exact ⟨by simp only; omega, by simp; omega, by simp only; omega, by simp only; omega, hl'⟩
      · split at h
        · cases h; exact ⟨by simp only; omega, by simp only; omega, by simp; omega, by simp only; omega, hl'⟩
        · split at h
          · cases h
            refine ⟨by simp only; omega, by simp only; omega, by simp only; omega, by simp; omega, fun c hcc => ?_⟩
            rcases List.mem_append.1 hcc with h1 | h1
            · exact hl' c h1
            · simp only [List.mem_singleton] at h1
              subst h1
              simp only [kiOf, List.length_drop]
              omega
          · split at h
            · split at h
              · cases h; exact ⟨by omega, by omega, by omega, by omega, hl'⟩
              · cases h
            · cases h
theorem rsStep_ok {i : Nat} {st st' : Ha × Bool} {row : By} (h : rsStep i st row = some st') (hy : RsOk i st.1) (hl : row.length ≤ 100000) : RsOk (i + 1) st'.1 := by
  unfold rsStep at h
  split at h
  · cases h
  · rename_i w l hp
    split at h
    · cases h
    · have := parseR_len hp
      exact rsPut_ok (b := st'.2) h hy (by omega)
end Go.Proofs.YtominlgikchnmaaGreatDoor

/- Plain: the words of a row, as the program reads them. -/
namespace Go.Proofs.YtominlgikchnmaaGreatDoor
open Go Vm
theorem numR_atoi (s : By) : numR 8 s = if (atoiV s).2 = true ∧ 0 ≤ (atoiV s).1 ∧ s.length ≤ 8 ∧ Lib.itoa (atoiV s).1 = s then some (atoiV s).1 else none := by
  rw [← numP_eq (m := 8) (by omega) s]
  unfold numP atoiV
  cases Lib.atoiAll s with
  | ok x => simp
  | «syntax» => simp
  | range => simp
theorem atoiV_fit (s : By) : -9223372036854775808 ≤ (atoiV s).1 ∧ (atoiV s).1 ≤ 9223372036854775807 := by
  unfold atoiV
  cases h : Lib.atoiAll s with
  | ok x => exact Lib.atoiAll_bounds h
  | «syntax» => exact ⟨show (-9223372036854775808 : Int) ≤ 0 by decide, show (0 : Int) ≤ 9223372036854775807 by decide⟩
  | range => exact Lib.atoiSat_bounds s
theorem numsR_take {m : Nat} {ws : List By} {k : Nat} (hk : k < ws.length) : numsR m (ws.take (k + 1)) = match numsR m (ws.take k), numR m ws[k] with
    | some l, some n => some (l ++ [n])
    | _, _ => none := by
  rw [List.take_succ_eq_append_getElem hk, numsR_app]
  simp only [numsR]
  cases numsR m (ws.take k) <;> cases numR m ws[k] <;> rfl
end Go.Proofs.YtominlgikchnmaaGreatDoor
