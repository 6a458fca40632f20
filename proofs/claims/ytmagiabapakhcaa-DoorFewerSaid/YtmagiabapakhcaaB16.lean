/- A part of the proofs about the chapter of the doors; it states no condition of its own. -/
import Derived.Test.YtmagiabapakhcaaB15
set_option linter.unusedVariables false
set_option linter.unusedSimpArgs false
/- A machine on values: a function's contract from its body. -/
namespace Go.Proofs.Ytmagiabapakhcaa.Vm
open Go

def zipEnv : Nat → List VV → Env
  | _, [] => []
  | i, v :: vs => (i, v) :: zipEnv (i + 1) vs
def vresL (T : Tab) (e : Env) (M : Mem) : List ResultVar → Option (List VV)
  | [] => some []
  | .tmp t :: r => match vresL T e M r with
    | some vs => some (get e t :: vs)
    | none => none
  | .cell a t :: r => match vload T t (get e a) M, vresL T e M r with
    | some v, some vs => some (v :: vs)
    | _, _ => none
def vtup : List VV → VV
  | [v] => v
  | vs => .tup vs
def vkill (n0 : Nat) : List Nat → List VObj → Option (List VObj)
  | [], H => some H
  | id :: D, H => bif Nat.ble n0 id then (match H[id]? with
      | some .dfr => vkill n0 D (H.set id .dead)
      | _ => none) else none
def chunksOf (cs : List VV) (k : Nat) : Nat → Nat → List (List VV)
  | _, 0 => []
  | off, n + 1 => ((cs.drop off).take k) :: chunksOf cs k (off + k) n
mutual
def frz (n0 : Nat) (H : List VObj) : VV → VV
  | .so _ k xs => .p (.sl k xs)
  | .sf k xs => .p (.sl k xs)
  | .bf id off n k => bif Nat.ble n0 id then (match H[id]? with
      | some (.obj cs) => bif Nat.ble (off + n * k) cs.length then (match toPss (chunksOf cs k off n) with
        | some xs => .p (.sl k xs)
        | none => .bf id off n k) else .bf id off n k
      | _ => .bf id off n k) else .bf id off n k
  | .tup vs => .tup (frzL n0 H vs)
  | v => v
def frzL (n0 : Nat) (H : List VObj) : List VV → List VV
  | [] => []
  | v :: vs => frz n0 H v :: frzL n0 H vs
end
def vfinish (T : Tab) (f n0 : Nat) (r : VV) (M : Mem) : VV × Mem :=
  bif T.keeps f then (r, M) else
  bif (M.lg.filter fun e => Nat.blt e.1 n0).all (fun e => Nat.blt e.2 n0) && (refs (frz n0 M.H r)).all (Nat.blt · n0) then
    (frz n0 M.H r, { H := M.H.take n0, lg := M.lg.filter fun e => Nat.blt e.1 n0 }) else (r, M)

theorem frzL_len (n0 : Nat) (H : List VObj) : ∀ vs, (frzL n0 H vs).length = vs.length
  | [] => rfl
  | v :: vs => by simp [frzL, frzL_len n0 H vs]
theorem frzL_get (n0 : Nat) (H : List VObj) : ∀ (vs : List VV) (i : Nat), (frzL n0 H vs)[i]? = (vs[i]?).map (frz n0 H)
  | [], i => by simp [frzL]
  | v :: vs, 0 => by simp [frzL]
  | v :: vs, i + 1 => by simp [frzL, frzL_get n0 H vs i]
theorem chunksOf_get (cs : List VV) (k : Nat) : ∀ (n off : Nat), (chunksOf cs k off n).length = n ∧ ∀ i, i < n → (chunksOf cs k off n)[i]? = some ((cs.drop (off + i * k)).take k)
  | 0, off => ⟨rfl, fun i h => absurd h (Nat.not_lt_zero _)⟩
  | n + 1, off => by
    obtain ⟨h1, h2⟩ := chunksOf_get cs k n (off + k)
    refine ⟨by simp [chunksOf, h1], fun i hi => ?_⟩
    cases i with
    | zero => simp [chunksOf]
    | succ i =>
      simp only [chunksOf, List.getElem?_cons_succ]
      rw [h2 i (by omega)]
      congr 3
      rw [Nat.succ_mul]
      omega

section
variable {P : Program} {T : Tab} {G : Ghost} {w : World} {K : Nat → Option Nat} {M : Mem}

theorem frz_ok (hI : Inv G w K M) {n0 : Nat} (hn : n0 ≤ M.H.length) {v : Value} {x : VV} (h : RepV w K M.H v x) : RepV w K M.H v x → (∀ r ∈ refs (frz n0 M.H x), r < n0) → RepV w K (M.H.take n0) v (frz n0 M.H x) := by
  induction h with
  | tup vs cs hs h ih =>
    intro _ hr
    simp only [frz] at hr ⊢
    refine .tup vs _ (by rw [frzL_len]; exact hs) fun i v c hv hc => ?_
    rw [frzL_get] at hc
    obtain ⟨c0, h0, rfl⟩ := Option.map_eq_some_iff.1 hc
    refine ih i v c0 hv h0 (h i v c0 hv h0) fun r hr' => hr r ?_
    rw [refs]
    refine mem_refsL.2 ⟨_, List.mem_of_getElem? (i := i) ?_, hr'⟩
    rw [frzL_get, h0]
    rfl
  | so v id k xs h ht => exact fun _ _ => (RepV.p (w := w) (K := K) (H := M.H) v (.sl k xs) h).keep (keep_take n0) (by simp [refs])
  | sf A k xs h => exact fun _ _ => (RepV.p (w := w) (K := K) (H := M.H) _ (.sl k xs) h).keep (keep_take n0) (by simp [refs])
  | bf id off n k b c A h hnc hc hm hA hz =>
    intro hx hr
    rw [frz] at hr ⊢
    cases hb : Nat.ble n0 id with
    | false =>
      rw [hb] at hr
      exact hx.keep (keep_take n0) hr
    | true =>
      rw [hb] at hr
      simp only [cond_true] at hr ⊢
      split at hr
      · rename_i cs hcs
        cases hl : Nat.ble (off + n * k) cs.length with
        | false => rw [hl] at hr; exact hx.keep (keep_take n0) hr
        | true =>
          rw [hl] at hr
          simp only [cond_true] at hr ⊢
          cases hp : toPss (chunksOf cs k off n) with
          | none => rw [hp] at hr; exact hx.keep (keep_take n0) hr
          | some xs =>
            simp only
            have hle : off + n * k ≤ cs.length := by simpa [Nat.ble_eq] using hl
            have hnid : n0 ≤ id := by simpa [Nat.ble_eq] using hb
            obtain ⟨q1, q2⟩ := toPss_get hp
            obtain ⟨c1, c2⟩ := chunksOf_get cs k n off
            have hlen : xs.length = n := q1.trans c1
            by_cases hn0 : n = 0
            · subst hn0
              obtain rfl := List.length_eq_zero_iff.1 hlen
              exact .p _ _ (.sl A c k 0 0 [] (fun _ _ => undef) (by simp; try omega) hm (by simp) (by simp) (by simp) (by simp) (by simp))
            obtain ⟨vs, t, h1, h2, h3⟩ := hI.obj id _ hcs _ (h hn0)
            have hid : id < M.H.length := (List.getElem?_eq_some_iff.1 hcs).1
            have hcell : ∀ i x j u, xs[i]? = some x → x[j]? = some u → ∃ cc v, cs[off + i * k + j]? = some cc ∧ toP cc = some u ∧ vs[off + i * k + j]? = some v := by
              intro i x j u hi hj
              have hin : i < n := by have := (List.getElem?_eq_some_iff.1 hi).1; omega
              obtain ⟨cs', hcs', htp⟩ := q2 i x hi
              rw [c2 i hin] at hcs'
              cases hcs'
              obtain ⟨cc, hcc, hu⟩ := (toPs_get htp).2 j u hj
              rw [List.getElem?_take] at hcc
              split at hcc
              · rw [List.getElem?_drop] at hcc
                have hlt := (List.getElem?_eq_some_iff.1 hcc).1
                refine ⟨cc, vs[off + i * k + j]'(by omega), hcc, hu, Array.getElem?_eq_getElem _⟩
              · cases hcc
            have hxk : ∀ x ∈ xs, x.length = k := by
              intro x hx'
              obtain ⟨i, hi⟩ := List.getElem?_of_mem hx'
              have hin : i < n := by have := (List.getElem?_eq_some_iff.1 hi).1; omega
              obtain ⟨cs', hcs', htp⟩ := q2 i x hi
              rw [c2 i hin] at hcs'
              cases hcs'
              rw [(toPs_get htp).1]
              have : i * k + k ≤ n * k := by
                calc i * k + k = (i + 1) * k := by rw [Nat.succ_mul]
                  _ ≤ n * k := Nat.mul_le_mul_right k hin
              simp
              omega
            have him : ∀ o, Im K (M.H.take n0) b o := by
              intro o i ob hob hKi
              rw [List.getElem?_take] at hob
              split at hob
              · rename_i hi
                by_cases hg : ob = .gone
                · subst hg; exact .inl trivial
                have := hI.inj i id b (List.getElem?_eq_some_iff.1 hob).1 hid (by rw [hob]; simpa using hg) (by rw [hcs]; simp) hKi (h hn0)
                omega
              · cases hob
            have key : RepV w K (M.H.take n0) (.slice A xs.length c) (.p (.sl k xs)) := by
              refine .p _ _ (.sl A c k b off xs (fun i j => vs.getD (off + i * k + j) undef) (by omega) hm hxk (fun _ => hA hn0) (fun i x j u hi hj => him _) (fun i x j u hi hj => ?_) fun i x j u hi hj => ?_)
              · obtain ⟨cc, v, _, _, hv⟩ := hcell i x j u hi hj
                simp only [World.cell?, h1]
                simp [hv]
              · obtain ⟨cc, v, hcc, hu, hv⟩ := hcell i x j u hi hj
                obtain ⟨hr1, _⟩ := h3 _ v cc hv hcc
                have hP := toP_rep (hr1) hu
                have : vs.getD (off + i * k + j) undef = v := by simp [hv]
                rw [this]
                exact hP.ext fun b1 o1 hb1 hi1 => (keep_take (w := w) (K := K) (H := M.H) n0).mem b1 o1 hb1 hi1
            rw [hlen] at key
            exact key
      · exact hx.keep (keep_take n0) hr
  | _ => exact fun hx hr => hx.keep (keep_take n0) hr
end
end Go.Proofs.Ytmagiabapakhcaa.Vm
