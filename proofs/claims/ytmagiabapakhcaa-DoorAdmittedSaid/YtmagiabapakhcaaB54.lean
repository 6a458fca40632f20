/- A part of the proofs about the chapter of the doors; it states no condition of its own. -/
import Derived.Test.YtmagiabapakhcaaB12
import Derived.Test.YtmagiabapakhcaaB38
set_option linter.unusedVariables false
set_option linter.unusedSimpArgs false
/- A call that is handed the numbers' box and gives slices of its own: they may be written afterwards. (Vm) -/
namespace Go.Proofs.Ytmagiabapakhcaa.Vm
open Go Go.Proofs
theorem RepV.pure2 {w : World} {K K' : Nat → Option Nat} {H H' : List VObj} {v : Value} {x : VV} (h : RepV w K H v x) (hx : pureV x = true) (him : ∀ b o, Im K H b o → Im K' H' b o) : RepV w K' H' v x := by
 have hP : ∀ {v : Value} {y : PV}, RepP w (Im K H) v y → RepP w (Im K' H') v y := fun h => h.ext fun b o _ hi => ⟨him b o hi, rfl⟩
 cases h with
 | p v y h => exact .p _ _ (hP h)
 | agg vs cs hs h1 h =>
  refine .agg vs cs hs h1 fun i v c a b => ?_
  have hc := List.all_eq_true.1 hx c (List.mem_of_getElem? b)
  have hr := h i v c a b
  cases hr with
  | p v y h => exact .p _ _ (hP h)
  | _ => cases hc
 | _ => cases hx
theorem VC_thaw {P : Program} {f : Nat} {args : List VV} {M : Mem} {d : Nat} {u : Int} {Q Q0 : VV → Mem → Prop} (hd : M.H[d]? = some (.obj [uv u])) (hargs : ∀ a ∈ args, pureV a = true ∨ a = .ptr d 0) (h : VC P f args ⟨(List.replicate M.H.length .dead).set d (.obj [uv u]), []⟩ Q0)
  (hq : ∀ r M1, Q0 r M1 → ∃ (rc rc2 : List VV) (t : VV) (L1 L2 : List VObj) (X : List (Nat × Nat)) (u' : Int), r = .tup [.agg rc, t] ∧ M1.H = (List.replicate M.H.length .dead).set d (.obj [uv u']) ++ L1 ∧ L1.length = L2.length ∧ rc2.length = rc.length ∧
   (∀ (i : Nat) (x x2 : VV), rc[i]? = some x → rc2[i]? = some x2 → Th M.H.length L1 x x2) ∧ (∀ (j : Nat) (o o2 : VObj), L1[j]? = some o → L2[j]? = some o2 → ThO M.H.length rc j o o2) ∧
   (∀ x ∈ rc2, ∀ q ∈ refs x, M.H.length ≤ q ∧ q < M.H.length + L2.length) ∧
   (∀ (j : Nat) (cs : List VV), L2[j]? = some (.obj cs) → ∀ c ∈ cs, ∀ q ∈ refs c, M.H.length ≤ q ∧ q < M.H.length + L2.length ∧ (q ≤ M.H.length + j ∨ (M.H.length + j, q) ∈ X)) ∧
   (∀ e ∈ X, M.H.length ≤ e.1 ∧ e.1 < M.H.length + L2.length ∧ e.2 < M.H.length + L2.length) ∧ Q (.tup [.agg rc2, .any]) ⟨M.H.set d (.obj [uv u']) ++ L2, M.lg ++ X⟩) : VC P f args M Q := by
 intro G w K rargs hI ha
 obtain ⟨n0, hn0⟩ : ∃ n0, n0 = M.H.length := ⟨_, rfl⟩
 rw [← hn0] at h hq
 have hdn : d < n0 := by rw [hn0]; exact (List.getElem?_eq_some_iff.1 hd).1
 obtain ⟨H0, hH0⟩ : ∃ H0 : List VObj, H0 = (List.replicate n0 .dead).set d (.obj [uv u]) := ⟨_, rfl⟩
 rw [← hH0] at h
 have hlen0 : H0.length = n0 := by rw [hH0]; simp
 have hset : ∀ (x : VObj) (i : Nat) (o : VObj), ((List.replicate n0 VObj.dead).set d x)[i]? = some o → (i = d ∧ o = x) ∨ (i ≠ d ∧ o = .dead) := fun x i o ho => by
  rcases set_get ho with ⟨h1, h2, _⟩ | ⟨h1, h2⟩
  ·exact .inl ⟨h1, h2⟩
  ·rw [List.getElem?_replicate] at h2
   split at h2
   ·cases h2; exact .inr ⟨h1, rfl⟩
   ·cases h2
 have hdead : ∀ (i : Nat) (o : VObj), H0[i]? = some o → (i = d ∧ o = .obj [uv u]) ∨ (i ≠ d ∧ o = .dead) := fun i o ho => by
  rw [hH0] at ho
  exact hset _ i o ho
 have hHd : H0[d]? = some (.obj [uv u]) := by rw [hH0, List.getElem?_set_self (by simpa using hdn)]
 obtain ⟨K0, hK0⟩ : ∃ K0 : Nat → Option Nat, K0 = fun i => if i = d then K d else none := ⟨_, rfl⟩
 have hK0d : K0 d = K d := by rw [hK0]; exact if_pos rfl
 have hK0n : ∀ i, i ≠ d → K0 i = none := fun i hi => by rw [hK0]; exact if_neg hi
 have himd : ∀ b o, Im K M.H b o → K d ≠ some b := fun b o him hb => by
  rcases him d _ hd hb with e | ⟨m, k, e, _⟩
  ·exact e.elim
  ·cases e
 have him0 : ∀ b o, Im K M.H b o → Im K0 H0 b o := fun b o him i ob hi hk => by
  rcases hdead i ob hi with ⟨rfl, rfl⟩ | ⟨h1, rfl⟩
  ·rw [hK0d] at hk
   exact absurd hk (himd b o him)
  ·exact .inl trivial
 have hI0 : Inv ⟨w.heap.size, w, fun b => K d = some b⟩ w K0 ⟨H0, []⟩ := by
  refine ⟨rfl, rfl, rfl, Nat.le_refl _, Nat.le_refl _, fun _ _ _ => rfl, fun i j b _ _ _ _ e e2 => ?_, fun i b _ e => ?_, fun i o ho => ?_, fun i o ho c hc => ?_, fun e he => (by cases he), fun i L hL => ?_⟩
  ·have hi : i = d := Classical.byContradiction fun hne => by rw [hK0n i hne] at e; cases e
   have hj : j = d := Classical.byContradiction fun hne => by rw [hK0n j hne] at e2; cases e2
   rw [hi, hj]
  ·have hi : i = d := Classical.byContradiction fun hne => by rw [hK0n i hne] at e; cases e
   rw [hi, hK0d] at e
   exact ⟨(hI.blk d b (by omega) e).1, .inr e⟩
  ·rcases hdead i o ho with ⟨rfl, rfl⟩ | ⟨_, rfl⟩
   ·rw [hK0d]
    intro b hb
    obtain ⟨vs, t, q1, q2, q3⟩ := hI.obj i _ hd b hb
    refine ⟨vs, t, q1, q2, fun l v c hv hc => ?_⟩
    obtain ⟨r1, r2⟩ := q3 l v c hv hc
    have hcu : c = uv u := by
     have := List.mem_of_getElem? hc
     simpa using this
    subst hcu
    exact ⟨r1.imf rfl (fun r hr => by simp [refs] at hr), r2⟩
   ·exact trivial
  ·rcases hdead i o ho with ⟨rfl, rfl⟩ | ⟨_, rfl⟩
   ·intro r hr
    simp only [contents, List.mem_singleton] at hc
    subst hc
    simp [refs] at hr
   ·simp [contents] at hc
  ·rcases hdead i _ hL with ⟨_, e⟩ | ⟨_, e⟩ <;> cases e
 have ha0 : ArgsOk w K0 ⟨H0, []⟩ rargs args := by
  refine ⟨⟨ha.rep.1, fun i a b h1 h2 => ?_⟩, fun a hh r hr => ?_⟩
  ·have hr := ha.rep.2 i a b h1 h2
   rcases hargs b (List.mem_of_getElem? h2) with e | rfl
   ·exact hr.pure2 e him0
   ·cases hr with
    | ptr id off b h hn => exact .ptr _ _ b (hK0d.trans h) (fun m k e => by rw [hHd] at e; cases e)
  ·rcases hargs a hh with e | rfl
   ·rw [pureV_refs e] at hr
    cases hr
   ·simp only [refs, List.mem_singleton] at hr
    subst hr
    show r < H0.length
    omega
 refine (h ⟨w.heap.size, w, fun b => K d = some b⟩ w K0 rargs hI0 ha0).mono ?_
 intro e w'
 rintro ⟨rv, r, K1, M1, he, hQ, h1, h2, h3, h4⟩
 obtain ⟨rc, rc2, t0, L1, L2, X, u2, rfl, hM1, hl12, hlr, hth, hto, hrr, hcl, hX, hQ2⟩ := hq _ _ hQ
 have hl1 : M1.H.length = n0 + L2.length := by rw [hM1, List.length_append, List.length_set, List.length_replicate, hl12]
 obtain ⟨HO, hHO⟩ : ∃ HO : List VObj, HO = M.H.set d (.obj [uv u2]) := ⟨_, rfl⟩
 rw [← hHO] at hQ2
 have hHOl : HO.length = n0 := by rw [hHO, List.length_set, hn0]
 have hget1 : ∀ j, M1.H[n0 + j]? = L1[j]? := fun j => by rw [hM1, List.getElem?_append_right (by simp), List.length_set, List.length_replicate]; congr 1; omega
 have hM1d : M1.H[d]? = some (.obj [uv u2]) := by rw [hM1, List.getElem?_append_left (by simpa using hdn), List.getElem?_set_self (by simpa using hdn)]
 have hget2 : ∀ j, (HO ++ L2)[n0 + j]? = L2[j]? := fun j => by rw [List.getElem?_append_right (by omega), hHOl]; congr 1; omega
 have hold : ∀ i, i < n0 → i ≠ d → (HO ++ L2)[i]? = M.H[i]? := fun i hi hne => by rw [List.getElem?_append_left (by omega), hHO, List.getElem?_set_ne (Ne.symm hne)]
 have hoD : (HO ++ L2)[d]? = some (.obj [uv u2]) := by rw [List.getElem?_append_left (by omega), hHO, List.getElem?_set_self (by omega)]
 have hK1d : K1 d = K d := by
  obtain ⟨o', _, _, e⟩ := h3.obj d _ hHd
  exact e.trans hK0d
 obtain ⟨K', hK'⟩ : ∃ K' : Nat → Option Nat, K' = fun i => if i < n0 then K i else K1 i := ⟨_, rfl⟩
 have hKo : ∀ i, i < n0 → K' i = K i := fun i hi => by
  rw [hK']
  exact if_pos hi
 have hKq : ∀ q, n0 ≤ q → K' q = K1 q := fun q hq => by
  rw [hK']
  exact if_neg (Nat.not_lt.2 hq)
 have hKn : ∀ j, K' (n0 + j) = K1 (n0 + j) := fun j => hKq _ (Nat.le_add_right _ _)
 have hheap : ∀ b, b < w.heap.size → K d ≠ some b → w'.heap[b]? = w.heap[b]? := fun b hb hne => h4.old b hb hne
 have hlt : ∀ q b, n0 ≤ q → q < n0 + L2.length → K1 q = some b → b < w'.heap.size := fun q b _ hq e => (h4.blk q b (by omega) e).1
 have hnew : ∀ q b, n0 ≤ q → q < n0 + L2.length → M1.H[q]? ≠ some .gone → K1 q = some b → w.heap.size ≤ b := fun q b hq0 hq hg e => by
  obtain ⟨a1, a2⟩ := h4.blk q b (by omega) e
  rcases a2 with a2 | a2
  ·exact a2
  ·have := h4.inj q d b (by omega) (by omega) hg (by rw [hM1d]; simp) e (hK1d.trans a2)
   omega
 have hng : ∀ q, n0 ≤ q → q < n0 + L2.length → (HO ++ L2)[q]? ≠ some .gone → M1.H[q]? ≠ some .gone := fun q g1 g2 g3 => by
  obtain ⟨j, rfl⟩ : ∃ j, q = n0 + j := ⟨q - n0, by omega⟩
  rw [hget1]
  have hj : j < L1.length := by omega
  have hj2 : j < L2.length := by omega
  rw [List.getElem?_eq_getElem hj]
  rcases hto j _ _ (List.getElem?_eq_getElem hj) (List.getElem?_eq_getElem hj2) with ⟨_, h8⟩ | ⟨h8, _⟩ | ⟨_, h8, _⟩ | ⟨_, _, h8, _⟩
  ·simpa using h8
  ·rw [hget2, List.getElem?_eq_getElem hj2, h8] at g3
   exact absurd rfl g3
  ·rw [h8]; simp
  ·rw [h8]; simp
 have hnc : ∀ q, n0 ≤ q → q < n0 + L2.length → ∀ m k, (HO ++ L2)[q]? ≠ some (.clm m k) := fun q h5 h6 m k h7 => by
  obtain ⟨j, rfl⟩ : ∃ j, q = n0 + j := ⟨q - n0, by omega⟩
  rw [hget2] at h7
  have hj : j < L1.length := by omega
  rcases hto j _ _ (List.getElem?_eq_getElem hj) h7 with ⟨h8, _⟩ | ⟨h8, _⟩ | ⟨_, _, h8, _⟩ | ⟨_, _, _, h8, _⟩ <;> cases h8
 have hne : ∀ i o, M.H[i]? = some o → i ≠ d → o ≠ .gone → ∀ b, K i = some b → w'.heap[b]? = w.heap[b]? := fun i o ho hid hg b hb => by
  have hil := (List.getElem?_eq_some_iff.1 ho).1
  refine hheap b (hI.blk i b hil hb).1 fun hdb => hid ?_
  exact hI.inj i d b hil (by omega) (by rw [ho]; simpa using hg) (by rw [hd]; simp) hb hdb
 have hE : Ext w K M.H w' K' (HO ++ L2) := by
  refine ⟨h4.size, h3.sz, fun b o hb him i ob hi hKi => ?_, fun b o hb him => World.cell?_of_block (hheap b hb (himd b o him)), fun i o ho => ?_⟩
  ·rcases Nat.lt_or_ge i n0 with hlt | hge
   ·rw [hKo i hlt] at hKi
    by_cases hid : i = d
    ·subst hid
     exact absurd hKi (himd b o him)
    ·rw [hold i hlt hid] at hi
     exact him i ob hi hKi
   ·have hi' := (List.getElem?_eq_some_iff.1 hi).1
    rw [List.length_append] at hi'
    rw [hKq i hge] at hKi
    by_cases hg : ob = .gone
    ·subst hg
     exact .inl trivial
    ·have := hnew i b hge (by omega) (hng i hge (by omega) (by rw [hi]; simpa using hg)) hKi
     omega
  ·have hlt := (List.getElem?_eq_some_iff.1 ho).1
   by_cases hid : i = d
   ·subst hid
    rw [hd] at ho
    cases ho
    exact ⟨_, hoD, fun _ _ e => VObj.noConfusion e, hKo i hdn⟩
   ·exact ⟨o, by rw [hold i (by omega) hid]; exact ho, objLe_ng (hKo i (by omega)) (fun hg b hb => hne i o ho hid hg b hb)⟩
 have himf : ∀ v x, RepV w' K1 M1.H v x → Vm.imf x = true → (∀ q ∈ refs x, n0 ≤ q ∧ q < n0 + L2.length) → RepV w' K' (HO ++ L2) v x := fun v x hv hx hq =>
  hv.imf hx fun q hr => by
   obtain ⟨a1, a2⟩ := hq q hr
   exact ⟨hKq q a1, hnc q a1 a2⟩
 -- a slice of our own in the result
 have hsw : ∀ v j k rows, 0 < k → L1[j]? = some (.clm rows.length k) → RepV w' K1 M1.H v (.sw (n0 + j) k rows) →
   (rows = [] ∨ ∃ b c vs t, K1 (n0 + j) = some b ∧ v = .slice (some ⟨b, 0, none⟩) rows.length c ∧ c ≤ maxLen ∧ rows.length ≤ c ∧ w'.heap[b]? = some (.cells vs t (0, 0)) ∧ (∀ x ∈ rows, x.length = k) ∧ rows.length * k ≤ vs.size ∧ c * k ≤ vs.size ∧
    ∀ (q : Nat) (vv : Value) (cc : VV), vs[q]? = some vv → rows.flatten[q]? = some cc → RepV w' K1 M1.H vv cc ∧ isOne vv = true) := by
  intro v j k rows hk hLj hv
  cases hv with
  | sw _ _ _ _ hP hTI =>
  obtain ⟨_, hT2⟩ := hTI rows.length k (by rw [hget1]; exact hLj)
  obtain ⟨_, hT2⟩ := hT2 rfl
  rcases hT2 with ⟨b, c, vs, t, hb, hv, hw, hcs⟩ | ⟨_, h0, _⟩
  ·by_cases hne : rows = []
   ·exact .inl hne
   refine .inr ⟨b, c, vs, t, hb, hv, ?_⟩
   subst hv
   obtain ⟨A, c1, news, e1, o1, o2, o3, o4, o5, o6, o7⟩ := sv_flat hP hk
   cases e1
   obtain ⟨b1, off1, hb1, hcell⟩ := o4 hne
   cases hb1
   have hle : rows.length * k ≤ c * k := Nat.mul_le_mul_right _ o1
   refine ⟨o2, o1, hw, o6, by omega, hcs, fun q vv cc hvv hcc => ?_⟩
   obtain ⟨i, x, l, hx, hl, rfl⟩ : ∃ i x l, rows[i]? = some x ∧ x[l]? = some cc ∧ q = i * k + l := by
    have hfl : rows.flatten.length = rows.length * k := flat_lenV o6
    have hq := (List.getElem?_eq_some_iff.1 hcc).1
    rw [hfl] at hq
    have hd : q / k < rows.length := Nat.div_lt_of_lt_mul (by rw [Nat.mul_comm]; exact hq)
    have hx1 := List.getElem?_eq_getElem hd
    have hmm := Nat.mod_lt q hk
    have e2 : q = q / k * k + q % k := by rw [Nat.mul_comm]; exact (Nat.div_add_mod q k).symm
    have := flat_get o6 hx1 hmm
    rw [← e2, hcc] at this
    exact ⟨_, _, _, hx1, this.symm, e2⟩
   obtain ⟨_, r, a1, a2, a3⟩ := o7 i x l cc hx hl
   have h5 := hcell _ _ a1
   simp only [World.cell?, hw, Nat.zero_add] at h5
   rw [hvv] at h5
   cases h5
   exact ⟨a2, a3⟩
  ·exact .inl (List.length_eq_zero_iff.1 h0)
 refine ⟨rv, .tup [.agg rc2, .any], K', ⟨HO ++ L2, M.lg ++ X⟩, he, hQ2, ?_, fun q hq => ?_, hE, ?_⟩
 ·cases h1 with
  | tup vt _ hst ht =>
   refine .tup vt _ hst fun i0 v0 c0 hv0 hc0 => ?_
   rcases i0 with _ | _ | i0
   rotate_left
   ·simp only [List.getElem?_cons_succ, List.getElem?_cons_zero, Option.some.injEq] at hc0
    subst hc0
    exact .any _
   ·simp at hc0
   simp only [List.getElem?_cons_zero, Option.some.injEq] at hc0
   subst hc0
   have h1 := ht 0 v0 _ hv0 rfl
   cases h1 with
   | agg vs _ hs h5 h6 =>
   refine .agg vs rc2 (by omega) h5 fun i v x2 hv hx2 => ?_
   have hil : i < rc.length := by have := (List.getElem?_eq_some_iff.1 hx2).1; omega
   have hx := List.getElem?_eq_getElem hil
   generalize rc[i] = x at hx
   have hr := h6 i v x hv hx
   have hrq := hrr x2 (List.mem_of_getElem? hx2)
   rcases hth i x x2 hx hx2 with ⟨rfl, hi2⟩ | ⟨j, k, rows, rfl, rfl, hLj⟩
   ·exact himf v _ hr hi2 hrq
   ·obtain ⟨a1, a2⟩ := hrq (n0 + j) (by simp [refs])
    rcases hsw v j k rows hLj.2 hLj.1 hr with rfl | ⟨b, c, vs1, t, b1, rfl, b3, b4, b5, _, _, b8, _⟩
    ·cases hr with
     | sw _ _ _ _ hP _ =>
      cases hP with
      | sv A c _ b off _ ff hc hm hk hA =>
       exact .bf _ 0 0 k 0 c A (fun h => absurd rfl h) (hnc _ a1 a2) (Nat.zero_le _) hm (fun h => absurd rfl h) (fun h => absurd rfl h)
    ·exact .bf _ 0 rows.length k b c _ (fun _ => (hKn j).trans b1) (hnc _ a1 a2) b4 b3 (fun _ => rfl) (fun _ => ⟨vs1, t, b5, by omega⟩)
 ·simp only [refs, refsL, List.append_nil] at hq
  obtain ⟨x, hx, hq⟩ := mem_refsL.1 hq
  have := hrr x hx q hq
  simp only [List.length_append]
  omega
 ·refine ⟨h4.os.trans hI.os, h4.tape.trans hI.tape, h4.output.trans hI.output, Nat.le_trans hI.size h4.size, Nat.le_trans hI.gB h4.size, fun b hb1 hb2 => (hheap b (Nat.lt_of_lt_of_le hb1 hI.gB) (fun hdb => (hI.blk d b (by omega) hdb).2.elim (fun h => absurd hb1 (by omega)) (fun h => hb2 h))).trans (hI.old b hb1 hb2), fun i j b hi hj n1 n2 e1 e2 => ?_, fun i b hi e1 => ?_, fun i o ho => ?_, fun i o ho c hc q hq => ?_, fun e he => ?_, fun i L hL => ?_⟩
  ·simp only [List.length_append] at hi hj
   have hog : ∀ i, i < n0 → (HO ++ L2)[i]? ≠ some .gone → M.H[i]? ≠ some .gone := fun i h5 n1 => by
    by_cases hid : i = d
    ·rw [hid, hd]; simp
    ·rwa [hold i h5 hid] at n1
   rcases Nat.lt_or_ge i n0 with h5 | h5 <;> rcases Nat.lt_or_ge j n0 with h6 | h6
   ·rw [hKo i h5] at e1
    rw [hKo j h6] at e2
    exact hI.inj i j b (by omega) (by omega) (hog i h5 n1) (hog j h6 n2) e1 e2
   ·rw [hKo i h5] at e1
    rw [hKq j h6] at e2
    have := (hI.blk i b (by omega) e1).1
    have := hnew j b h6 (by omega) (hng j h6 (by omega) n2) e2
    omega
   ·rw [hKq i h5] at e1
    rw [hKo j h6] at e2
    have := (hI.blk j b (by omega) e2).1
    have := hnew i b h5 (by omega) (hng i h5 (by omega) n1) e1
    omega
   ·rw [hKq i h5] at e1
    rw [hKq j h6] at e2
    exact h4.inj i j b (by omega) (by omega) (hng i h5 (by omega) n1) (hng j h6 (by omega) n2) e1 e2
  ·simp only [List.length_append] at hi
   rcases Nat.lt_or_ge i n0 with h5 | h5
   ·rw [hKo i h5] at e1
    have := hI.blk i b (by omega) e1
    exact ⟨Nat.lt_of_lt_of_le this.1 h4.size, this.2⟩
   ·rw [hKq i h5] at e1
    refine ⟨hlt i b h5 (by omega) e1, ?_⟩
    rcases (h4.blk i b (by omega) e1).2 with h7 | h7
    ·exact .inl (Nat.le_trans hI.gB h7)
    ·exact (hI.blk d b (by omega) h7).2
  ·rcases Nat.lt_or_ge i n0 with h5 | h5
   ·rw [hKo i h5]
    by_cases hid : i = d
    ·subst hid
     simp only [hoD, Option.some.injEq] at ho
     subst ho
     intro b hb
     obtain ⟨vs, t, q1, q2, q3⟩ := h4.obj i _ hM1d b (hK1d.trans hb)
     refine ⟨vs, t, q1, q2, fun l v c hv hc => ?_⟩
     obtain ⟨r1, r2⟩ := q3 l v c hv hc
     have hcu : c = uv u2 := by
      have := List.mem_of_getElem? hc
      simpa using this
     subst hcu
     exact ⟨r1.imf rfl (fun r hr => by simp [refs] at hr), r2⟩
    ·simp only [hold i h5 hid] at ho
     exact (hI.obj i o ho).extg hE (fun hg b hb => hne i o ho hid hg b hb) (hI.content ho)
   ·obtain ⟨j, rfl⟩ : ∃ j, i = n0 + j := ⟨i - n0, by omega⟩
    simp only [hget2] at ho
    have hj := (List.getElem?_eq_some_iff.1 ho).1
    have hL1 := List.getElem?_eq_getElem (show j < L1.length by omega)
    generalize L1[j] = o1 at hL1
    rw [hKn]
    have hcq : ∀ cs, o = .obj cs → ∀ c ∈ cs, ∀ q ∈ refs c, n0 ≤ q ∧ q < n0 + L2.length := fun cs e c hc q hq => by
     subst e
     have := hcl j cs ho c hc q hq
     exact ⟨this.1, this.2.1⟩
    rcases hto j o1 o hL1 ho with ⟨rfl, _⟩ | ⟨rfl, _⟩ | ⟨cs, rfl, rfl, h9⟩ | ⟨k, rows, rfl, rfl, h9, h10, h11⟩
    ·exact trivial
    ·exact trivial
    ·intro b hb
     obtain ⟨vs, t, q1, q2, q3⟩ := h4.obj (n0 + j) _ ((hget1 j).trans hL1) b hb
     refine ⟨vs, t, q1, q2, fun l v c hv hc => ?_⟩
     obtain ⟨r1, r2⟩ := q3 l v c hv hc
     exact ⟨himf v c r1 (h9 c (List.mem_of_getElem? hc)) (hcq _ rfl c (List.mem_of_getElem? hc)), r2⟩
    ·intro b hb
     obtain ⟨i, hi⟩ := List.getElem?_of_mem h9
     cases h1 with
     | tup vt _ hst ht =>
     have hv0 := Array.getElem?_eq_getElem (xs := vt) (i := 0) (by simp only [List.length_cons, List.length_nil] at hst; omega)
     generalize vt[0]'(by simp only [List.length_cons, List.length_nil] at hst; omega) = v00 at hv0
     have h1 := ht 0 v00 _ hv0 rfl
     cases h1 with
     | agg vs _ hs h5 h6 =>
     have hiv : i < vs.size := by have := (List.getElem?_eq_some_iff.1 hi).1; omega
     have hv := Array.getElem?_eq_getElem hiv
     generalize vs[i] = v at hv
     rcases hsw v j k rows h10 hL1 (h6 i v _ hv hi) with rfl | ⟨b1, c, vs1, t, d1, _, _, _, d5, d6, d7, _, d8⟩
     ·obtain ⟨vs2, t, q1, _⟩ := h4.obj (n0 + j) _ ((hget1 j).trans hL1) b hb
      exact ⟨vs2, t, q1, by simp, fun l v c hv hc => by simp at hc⟩
     ·rw [hb] at d1
      cases d1
      refine ⟨vs1, t, d5, by rw [flat_lenV d6]; exact d7, fun l v c hv hc => ?_⟩
      obtain ⟨r1, r2⟩ := d8 l v c hv hc
      have hm := List.mem_of_getElem? hc
      obtain ⟨x, hx1, hx2⟩ := List.mem_flatten.1 hm
      exact ⟨himf v c r1 (h11 x hx1 c hx2) (hcq _ rfl c hm), r2⟩
  ·rcases Nat.lt_or_ge i n0 with h5 | h5
   ·by_cases hid : i = d
    ·subst hid
     simp only [hoD, Option.some.injEq] at ho
     subst ho
     simp only [contents, List.mem_singleton] at hc
     subst hc
     simp [refs] at hq
    simp only [hold i h5 hid] at ho
    obtain ⟨a1, a2⟩ := hI.cl i o ho c hc q hq
    simp only [List.length_append]
    exact ⟨by omega, a2.imp_right fun x => List.mem_append_left _ x⟩
   ·obtain ⟨j, rfl⟩ : ∃ j, i = n0 + j := ⟨i - n0, by omega⟩
    simp only [hget2] at ho
    have hj := (List.getElem?_eq_some_iff.1 ho).1
    have hL1 := List.getElem?_eq_getElem (show j < L1.length by omega)
    generalize L1[j] = o1 at hL1
    have hob : ∃ cs, o = .obj cs := by
     rcases hto j o1 o hL1 ho with ⟨rfl, _⟩ | ⟨rfl, _⟩ | ⟨cs, _, rfl, _⟩ | ⟨k, rows, _, rfl, _⟩
     ·simp [contents] at hc
     ·simp [contents] at hc
     ·exact ⟨_, rfl⟩
     ·exact ⟨_, rfl⟩
    obtain ⟨cs, rfl⟩ := hob
    obtain ⟨a1, a2, a3⟩ := hcl j cs ho c hc q hq
    simp only [List.length_append]
    exact ⟨by omega, a3.imp_right fun x => List.mem_append_right _ x⟩
  ·simp only [List.length_append]
   rcases List.mem_append.1 he with he | he
   ·have := hI.lg e he
    omega
   ·have := hX e he
    omega
  ·rcases Nat.lt_or_ge i n0 with h5 | h5
   ·by_cases hid : i = d
    ·subst hid
     simp only [hoD, Option.some.injEq, reduceCtorEq] at hL
    simp only [hold i h5 hid] at hL
    exact hI.lpd i L hL
   ·obtain ⟨j, rfl⟩ : ∃ j, i = n0 + j := ⟨i - n0, by omega⟩
    simp only [hget2] at hL
    have hj := (List.getElem?_eq_some_iff.1 hL).1
    rcases hto j _ _ (List.getElem?_eq_getElem (show j < L1.length by omega)) hL with ⟨h8, _⟩ | ⟨h8, _⟩ | ⟨_, _, h8, _⟩ | ⟨_, _, _, h8, _⟩ <;> cases h8
end Go.Proofs.Ytmagiabapakhcaa.Vm
