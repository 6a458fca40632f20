/- A part of the proofs about the chapter of the ramps; it states no condition of its own. -/
import Derived.Test.YtmiiipdgbkipjaaGreatDoorB06
set_option linter.unusedVariables false
set_option linter.unusedSimpArgs false
/- A machine on values: functions, and what is left of their memory. -/
namespace Go.Proofs.YtmiiipdgbkipjaaGreatDoor.Vm
open Go

structure Keep (p : Nat → Prop) (w : World) (K : Nat → Option Nat) (H : List VObj) (w' : World) (K' : Nat → Option Nat) (H' : List VObj) : Prop where
 sz : Szp w w'
 mem : ∀ b o, b < w.heap.size → Im K H b o → Im K' H' b o ∧ w'.cell? ⟨b, o, none⟩ = w.cell? ⟨b, o, none⟩
 key : ∀ i, p i → (∀ m k, H[i]? ≠ some (.clm m k)) → (∀ b, K i = some b → K' i = some b) ∧ ∀ m k, H'[i]? ≠ some (.clm m k)
 tok : ∀ i m k, p i → H'[i]? = some (.clm m k) → ∃ m0, H[i]? = some (.clm m0 k) ∧ m0 ≤ m ∧ (m = m0 → K' i = K i ∧ ∀ b, K i = some b → w'.heap[b]? = w.heap[b]?)
section
variable {P : Program} {p : Nat → Prop} {w w' : World} {K K' : Nat → Option Nat} {H H' : List VObj} {M M' : Mem} {G : Ghost}
theorem RepV.keep {v : Value} {x : VV} (h : RepV w K H v x) (he : Keep p w K H w' K' H') (hc : ∀ r ∈ refs x, p r) : RepV w' K' H' v x := by
 have hP : ∀ {v : Value} {x : PV}, RepP w (Im K H) v x → RepP w' (Im K' H') v x := fun h => h.ext fun b o hb hi => he.mem b o hb hi
 induction h with
 | p v x h => exact .p v x (hP h)
 | any v => exact .any v
 | agg vs cs hs h1 h ih => exact .agg vs cs hs h1 fun i v c a b => ih i v c a b fun r hr => hc r (by rw [refs]; exact refsL_get b hr)
 | tup vs cs hs h ih => exact .tup vs cs hs fun i v c a b => ih i v c a b fun r hr => hc r (by rw [refs]; exact refsL_get b hr)
 | so v id k xs h ht =>
  refine .so v id k xs (hP h) fun m k' hm => ?_
  obtain ⟨m0, h0, hle, hk⟩ := he.tok id m k' (hc id (by simp [refs])) hm
  obtain ⟨h1, h2⟩ := ht m0 k' h0
  refine ⟨by omega, fun e => ?_⟩
  have e0 : m = m0 := by omega
  obtain ⟨e1, e2⟩ := hk e0
  obtain ⟨rfl, h3⟩ := h2 (by omega)
  refine ⟨rfl, ?_⟩
  rcases h3 with ⟨b, c, vs, t, hb, hv, hw, hcc⟩ | ⟨hb, hv⟩
  ·exact .inl ⟨b, c, vs, t, e1.trans hb, hv, (e2 b hb).trans hw, hcc⟩
  ·exact .inr ⟨e1.trans hb, hv⟩
 | sf A k xs h => exact .sf A k xs (hP h)
 | ptr id off b h hn =>
  obtain ⟨h1, h2⟩ := he.key id (hc id (by simp [refs])) hn
  exact .ptr id off b (h1 b h) h2
 | ip cs b off f hi hw hr =>
  exact .ip cs b off f (fun j u a => (he.mem _ _ (cell_lt (hw j u a)) (hi j u a)).1) (fun j u a => (he.mem _ _ (cell_lt (hw j u a)) (hi j u a)).2.trans (hw j u a)) fun j u a => hP (hr j u a)
 | iv cs b off f hi hw hr h1 ih =>
  exact .iv cs b off f (fun j u a => (he.mem _ _ (cell_lt (hw j u a)) (hi j u a)).1) (fun j u a => (he.mem _ _ (cell_lt (hw j u a)) (hi j u a)).2.trans (hw j u a))
   (fun j u a => ih j u a fun r hr => hc r (by rw [refs]; exact refsL_get a hr)) h1
 | bf id off n k b c A h hn h2 hm hA hz =>
  obtain ⟨h3, h4⟩ := he.key id (hc id (by simp [refs])) hn
  exact .bf id off n k b c A (fun hne => h3 b (h hne)) h4 h2 hm hA fun hne => (hz hne).sz he.sz
 | mp id b h hn =>
  obtain ⟨h3, h4⟩ := he.key id (hc id (by simp [refs])) hn
  exact .mp id b (h3 b h) h4
 | fn f us vs as bs hs ht h h' ih ih' =>
  exact .fn f us vs as bs hs ht (fun i v c a b => ih i v c a b fun r hr => hc r (by rw [refs, List.mem_append]; exact .inl (refsL_get b hr)))
   fun i v c a b => ih' i v c a b fun r hr => hc r (by rw [refs, List.mem_append]; exact .inr (refsL_get b hr))
 | sv A c k b off xs f hcc hm hk hA hi hw hr h1 ih =>
  exact .sv A c k b off xs f hcc hm hk hA (fun i x j u h1 h2 => (he.mem _ _ (cell_lt (hw i x j u h1 h2)) (hi i x j u h1 h2)).1)
   (fun i x j u h1 h2 => (he.mem _ _ (cell_lt (hw i x j u h1 h2)) (hi i x j u h1 h2)).2.trans (hw i x j u h1 h2))
   (fun i x j u a a' => ih i x j u a a' fun r hr => hc r (by rw [refs]; exact refsLL_get a a' hr)) h1
 | sw v id k xs h ht ih =>
  refine .sw v id k xs (ih fun r hr => hc r (by simp only [refs] at hr; simp only [refs, List.mem_cons]; exact .inr hr)) fun m k' hm => ?_
  obtain ⟨m0, h0, hle, hk⟩ := he.tok id m k' (hc id (by simp [refs])) hm
  obtain ⟨h1, h2⟩ := ht m0 k' h0
  refine ⟨by omega, fun e => ?_⟩
  have e0 : m = m0 := by omega
  obtain ⟨e1, e2⟩ := hk e0
  obtain ⟨rfl, h3⟩ := h2 (by omega)
  refine ⟨rfl, ?_⟩
  rcases h3 with ⟨b, c, vs, t, hb, hv, hw, hcc⟩ | ⟨hb, hv⟩
  ·exact .inl ⟨b, c, vs, t, e1.trans hb, hv, (e2 b hb).trans hw, hcc⟩
  ·exact .inr ⟨e1.trans hb, hv⟩
 | yl id b h hn =>
  obtain ⟨h3, h4⟩ := he.key id (hc id (by simp [refs])) hn
  exact .yl id b (h3 b h) h4
theorem ObjOk.keep {kb : Option Nat} {o : VObj} (h : ObjOk w K H kb o) (he : Keep p w K H w' K' H') (hb : ∀ b, kb = some b → w'.heap[b]? = w.heap[b]?)
  (hc : ∀ c ∈ contents o, ∀ r ∈ refs c, p r) (hd : ∀ L, o = .lp L → p L.dfr ∧ L.dfr < H'.length) : ObjOk w' K' H' kb o := by
 cases o with
 | obj cs =>
  intro b e
  obtain ⟨vs, t, h1, h2, h3⟩ := h b e
  exact ⟨vs, t, (hb b e).trans h1, h2, fun i v c a b => ⟨(h3 i v c a b).1.keep he (hc c (List.mem_of_getElem? b)), (h3 i v c a b).2⟩⟩
 | clm m k =>
  intro b e
  obtain ⟨vs, t, h1, h2⟩ := h b e
  exact ⟨vs, t, (hb b e).trans h1, h2⟩
 | mpo sh es =>
  obtain ⟨b, ents, clock, e, h1, h2, hst, h3⟩ := h
  refine ⟨b, ents, clock, e, (hb b e).trans h1, h2, hst, fun i x ks v a b => ?_⟩
  obtain ⟨p, q, r⟩ := h3 i x ks v a b
  exact ⟨p, q, r.keep he (hc v (List.mem_map.2 ⟨(ks, v), List.mem_of_getElem? b, rfl⟩))⟩
 | lp l =>
  obtain ⟨b, L, d, e, h1, a1, a2, a3, a4, a5, a6, a7, a8, a9, a10, a11, h3⟩ := h
  obtain ⟨d1, d2⟩ := hd l rfl
  obtain ⟨k1, k2⟩ := he.key l.dfr d1 a8
  refine ⟨b, L, d, e, (hb b e).trans h1, a1, a2, a3, a4, a5, a6, k1 d a7, k2, d2, a10, a11, fun t => (h3 t).keep he ?_⟩
  rcases get_mem (e := l.tm) (t := t) with h5 | ⟨k, h5⟩
  ·rw [h5]; intro r hr; simp [refs] at hr
  ·exact hc _ (List.mem_map.2 ⟨_, h5, rfl⟩)
 | dfr =>
  obtain ⟨b, e, h1⟩ := h
  exact ⟨b, e, (hb b e).trans h1⟩
 | dead => exact trivial
 | gone => exact trivial
 | bld tB tE j l =>
  obtain ⟨b, v, p, e, h1, h2, h3, h4⟩ := h
  exact ⟨b, v, p, e, (hb b e).trans h1, h2, h3.keep he (hc _ (List.mem_singleton.2 rfl)), h4.sz he.sz⟩
theorem ObjOk.keepg {kb : Option Nat} {o : VObj} (h : ObjOk w K H kb o) (he : Keep p w K H w' K' H') (hb : o ≠ .gone → ∀ b, kb = some b → w'.heap[b]? = w.heap[b]?)
  (hc : ∀ c ∈ contents o, ∀ r ∈ refs c, p r) (hd : ∀ L, o = .lp L → p L.dfr ∧ L.dfr < H'.length) : ObjOk w' K' H' kb o := by
 by_cases hg : o = .gone
 ·subst hg
  exact trivial
 ·exact h.keep he (hb hg) hc hd
theorem keep_take (n : Nat) : Keep (· < n) w K H w K (H.take n) := by
 have hget : ∀ i ob, (H.take n)[i]? = some ob → H[i]? = some ob ∧ i < n := fun i ob h => by
  rw [List.getElem?_take] at h
  split at h
  ·rename_i hi; exact ⟨h, hi⟩
  ·cases h
 exact ⟨Szp.refl _, fun b o _ hi => ⟨fun i ob hob hK => hi i ob (hget i ob hob).1 hK, rfl⟩, fun i _ hn => ⟨fun _ h => h, fun m k hm => hn m k (hget i _ hm).1⟩, fun i m k _ hm => ⟨m, (hget i _ hm).1, Nat.le_refl _, fun _ => ⟨rfl, fun _ _ => rfl⟩⟩⟩
theorem Ext.keep {w0 : World} {K0 : Nat → Option Nat} {H0 : List VObj} (he : Ext w0 K0 H0 w K H) (hk : Keep p w K H w' K' H') (hs : w.heap.size ≤ w'.heap.size)
  (hi : ∀ i, i < H0.length → H'[i]? = H[i]? ∧ K' i = K i ∧ (H[i]? ≠ some .gone → ∀ b, K i = some b → w'.heap[b]? = w.heap[b]?)) : Ext w0 K0 H0 w' K' H' := by
 refine ⟨Nat.le_trans he.size hs, he.sz.trans hk.sz, fun b o hb h => (hk.mem b o (Nat.lt_of_lt_of_le hb he.size) (he.im b o hb h)).1, fun b o hb h => (hk.mem b o (Nat.lt_of_lt_of_le hb he.size) (he.im b o hb h)).2.trans (he.cell b o hb h), fun i o ho => ?_⟩
 obtain ⟨o', h1, h2⟩ := he.obj i o ho
 obtain ⟨e1, e2, e3⟩ := hi i (List.getElem?_eq_some_iff.1 ho).1
 refine ⟨o', e1.trans h1, ?_⟩
 cases o with
 | clm m k =>
  obtain ⟨m', a1, a2, a3⟩ := h2
  refine ⟨m', a1, a2, fun e => ?_⟩
  obtain ⟨b1, b2⟩ := a3 e
  exact ⟨e2.trans b1, fun b hb => (e3 (by rw [h1, a1]; simp) b (b1.trans hb)).trans (b2 b hb)⟩
 | dead =>
  obtain ⟨a1, a2, a3⟩ := h2
  exact ⟨a1, e2.trans a2, fun b hb => (e3 (by rw [h1, a1]; simp) b (a2.trans hb)).trans (a3 b hb)⟩
 | dfr => exact ⟨h2.1, e2.trans h2.2⟩
 | lp L => exact ⟨h2.1, e2.trans h2.2⟩
 | obj cs => exact ⟨h2.1, e2.trans h2.2⟩
 | mpo sh es => exact ⟨h2.1, e2.trans h2.2⟩
 | gone => exact ⟨h2.1, e2.trans h2.2⟩
 | bld _ _ _ _ => exact ⟨h2.1, e2.trans h2.2⟩

theorem inv_take (hI : Inv G w K M) {n : Nat} (hn : n ≤ M.H.length) {lg' : List (Nat × Nat)} (h1 : ∀ e ∈ M.lg, e.1 < n → e.2 < n ∧ e ∈ lg') (h2 : ∀ e ∈ lg', e.1 < n ∧ e.2 < n) : Inv G w K { H := M.H.take n, lg := lg' } := by
 have hget : ∀ i ob, (M.H.take n)[i]? = some ob → M.H[i]? = some ob ∧ i < n := fun i ob h => by
  rw [List.getElem?_take] at h
  split at h
  ·rename_i hi; exact ⟨h, hi⟩
  ·cases h
 have hlen : (M.H.take n).length = n := by simp; omega
 have hcl : ∀ i o, M.H[i]? = some o → i < n → ∀ c ∈ contents o, ∀ r ∈ refs c, r < n ∧ (r ≤ i ∨ (i, r) ∈ lg') := fun i o ho hi c hc r hr => by
  obtain ⟨_, h | h⟩ := hI.cl i o ho c hc r hr
  ·exact ⟨by omega, .inl h⟩
  ·obtain ⟨a, b⟩ := h1 _ h hi
   exact ⟨a, .inr b⟩
 refine ⟨hI.os, hI.tape, hI.output, hI.size, hI.gB, hI.old, ?_, ?_, ?_, ?_, ?_, ?_⟩
 ·intro i j b hi hj n1 n2
  simp only [hlen] at hi hj
  simp only at n1 n2
  rw [List.getElem?_take_of_lt hi] at n1
  rw [List.getElem?_take_of_lt hj] at n2
  exact hI.inj i j b (by omega) (by omega) n1 n2
 ·intro i b hi
  simp only [hlen] at hi
  exact hI.blk i b (by omega)
 ·intro i o ho
  obtain ⟨a, b⟩ := hget i o ho
  refine (hI.obj i o a).keep (keep_take n) (fun _ _ => rfl) (fun c hc r hr => (hcl i o a b c hc r hr).1) fun L e => ?_
  subst e
  have := hI.lpd i L a
  exact ⟨by omega, by simp only [hlen]; omega⟩
 ·intro i o ho c hc r hr
  obtain ⟨a, b⟩ := hget i o ho
  simp only [hlen]
  exact hcl i o a b c hc r hr
 ·intro e he
  simp only [hlen]
  exact h2 e he
 ·intro i L hL
  exact hI.lpd i L (hget i _ hL).1

theorem step_kill (hI : Inv G w K M) {id b : Nat} (hi : M.H[id]? = some .dfr) (hK : K id = some b) :
  (Instr.takeDeferred b).run P w = .ok [] { w with heap := w.heap.setIfInBounds b (.deferred none) } ∧
   Keep (fun _ => True) w K M.H { w with heap := w.heap.setIfInBounds b (.deferred none) } K (M.H.set id .dead) ∧ Inv G { w with heap := w.heap.setIfInBounds b (.deferred none) } K { M with H := M.H.set id .dead } ∧
   ∀ b', b' ≠ b → ({ w with heap := w.heap.setIfInBounds b (.deferred none) } : World).heap[b']? = w.heap[b']? := by
 obtain ⟨b', e, hh⟩ := hI.obj id _ hi
 rw [hK] at e
 cases e
 have hset := MapKept.heap_set (o' := .deferred none) hh
 have hrun : (Instr.takeDeferred b).run P w = .ok [] { w with heap := w.heap.setIfInBounds b (.deferred none) } := by
  simp [Instr.takeDeferred, getObj, setObj, Sem.run, hh]
 have hil := (List.getElem?_eq_some_iff.1 hi).1
 have hkeep : Keep (fun _ => True) w K M.H { w with heap := w.heap.setIfInBounds b (.deferred none) } K (M.H.set id .dead) := by
  refine ⟨Szp.of_one (b0 := b) (fun b1 _ hne => hset.2 b1 hne) (fun v1 t1 z1 e1 => (by rw [hh] at e1; cases e1)), fun b1 o hb1 him => ?_, fun i _ hn => ⟨fun _ h => h, fun m k hm => ?_⟩, fun i m k _ hm => ?_⟩
  ·have hne : b1 ≠ b := fun e => by
    subst e
    rcases him id _ hi hK with e | ⟨m, k, e, _⟩
    ·exact e
    ·cases e
   refine ⟨fun i ob hob hKi => ?_, World.cell?_of_block (hset.2 b1 hne)⟩
   rcases set_get hob with ⟨rfl, rfl, _⟩ | ⟨h1, h2⟩
   ·rw [hK] at hKi
    cases hKi
    exact absurd rfl hne
   ·exact him i ob h2 hKi
  ·rcases set_get hm with ⟨rfl, e, _⟩ | ⟨h1, h2⟩
   ·cases e
   ·exact hn m k h2
  ·rcases set_get hm with ⟨rfl, e, _⟩ | ⟨h1, h2⟩
   ·cases e
   ·refine ⟨m, h2, Nat.le_refl _, fun _ => ⟨rfl, fun b1 hb1 => hset.2 b1 fun e => ?_⟩⟩
    subst e
    exact h1 (hI.inj i id b1 (List.getElem?_eq_some_iff.1 h2).1 hil (by rw [h2]; simp) (by rw [hi]; simp) hb1 hK)
 refine ⟨hrun, hkeep, ?_, hset.2⟩
 refine ⟨hI.os, hI.tape, hI.output, by simpa using hI.size, by simpa using hI.gB, fun b1 h1 h2 => ?_, ?_, ?_, ?_, ?_, ?_, ?_⟩
 ·refine (hset.2 b1 fun e => ?_).trans (hI.old b1 h1 h2)
  subst e
  rcases (hI.blk id b1 hil hK).2 with h | h
  ·omega
  ·exact h2 h
 ·intro p q b1 hp hq n1 n2
  rw [List.length_set] at hp hq
  have hg0 : M.H[id]? ≠ some .gone := by rw [hi]; simp
  refine hI.inj p q b1 hp hq ?_ ?_
  ·by_cases e : p = id
   ·rw [e]; exact hg0
   ·simp only at n1
    rwa [List.getElem?_set_ne (fun h => e h.symm)] at n1
  ·by_cases e : q = id
   ·rw [e]; exact hg0
   ·simp only at n2
    rwa [List.getElem?_set_ne (fun h => e h.symm)] at n2
 ·intro j b1 hj e
  rw [List.length_set] at hj
  exact ⟨by simpa using (hI.blk j b1 hj e).1, (hI.blk j b1 hj e).2⟩
 ·intro j x hx
  rcases set_get hx with ⟨rfl, rfl, _⟩ | ⟨h1, h2⟩
  ·exact trivial
  ·refine (hI.obj j x h2).keepg hkeep (fun hg b1 eb => hset.2 b1 fun e' => ?_) (fun _ _ _ _ => trivial) fun L e => ⟨trivial, ?_⟩
   ·subst e'
    exact h1 (hI.inj j id b1 (List.getElem?_eq_some_iff.1 h2).1 hil (by rw [h2]; simpa using hg) (by rw [hi]; simp) eb hK)
   ·subst e
    have := hI.lpd j L h2
    have := (List.getElem?_eq_some_iff.1 h2).1
    rw [List.length_set]
    omega
 ·intro j x hx c hcc r hr
  simp only [List.length_set]
  rcases set_get hx with ⟨rfl, rfl, _⟩ | ⟨h1, h2⟩
  ·simp [contents] at hcc
  ·exact hI.cl j x h2 c hcc r hr
 ·intro e he
  simp only [List.length_set]
  exact hI.lg e he
 ·intro j L hL
  rcases set_get hL with ⟨rfl, e, _⟩ | ⟨h1, h2⟩
  ·cases e
  ·exact hI.lpd j L h2
end
end Go.Proofs.YtmiiipdgbkipjaaGreatDoor.Vm

/- A machine on values: a function's contract from its body. -/
namespace Go.Proofs.YtmiiipdgbkipjaaGreatDoor.Vm
open Go

def zipEnv : Nat → List VV → Env
 | _, [] => []
 | i, v :: vs => (i, v) :: zipEnv (i + 1) vs
def vresL (T : Tab) (e : Env) (M : Mem) : List ResultVar → Option (List VV)
 | [] => some []
 | .tmp t :: r => match vresL T e M r with
  | some vs => some (get e t :: vs)
  | none => none
 | .cell a t :: r => match vload T t (get e a) M, vresL T e M r with
  | some v, some vs => some (v :: vs)
  | _, _ => none
def vtup : List VV → VV
 | [v] => v
 | vs => .tup vs
def vkill (n0 : Nat) : List Nat → List VObj → Option (List VObj)
 | [], H => some H
 | id :: D, H => bif Nat.ble n0 id then (match H[id]? with
   | some .dfr => vkill n0 D (H.set id .dead)
   | _ => none) else none
def chunksOf (cs : List VV) (k : Nat) : Nat → Nat → List (List VV)
 | _, 0 => []
 | off, n + 1 => ((cs.drop off).take k) :: chunksOf cs k (off + k) n
mutual
def frz (n0 : Nat) (H : List VObj) : VV → VV
 | .so _ k xs => .p (.sl k xs)
 | .sf k xs => .p (.sl k xs)
 | .bf id off n k => bif Nat.ble n0 id then (match H[id]? with
   | some (.obj cs) => bif Nat.ble (off + n * k) cs.length then (match toPss (chunksOf cs k off n) with
    | some xs => .p (.sl k xs)
    | none => .bf id off n k) else .bf id off n k
   | _ => .bf id off n k) else .bf id off n k
 | .tup vs => .tup (frzL n0 H vs)
 | v => v
def frzL (n0 : Nat) (H : List VObj) : List VV → List VV
 | [] => []
 | v :: vs => frz n0 H v :: frzL n0 H vs
end
def vfinish (T : Tab) (f n0 : Nat) (r : VV) (M : Mem) : VV × Mem :=
 bif T.keeps f then (r, M) else
 bif (M.lg.filter fun e => Nat.blt e.1 n0).all (fun e => Nat.blt e.2 n0) && (refs (frz n0 M.H r)).all (Nat.blt · n0) then
  (frz n0 M.H r, { H := M.H.take n0, lg := M.lg.filter fun e => Nat.blt e.1 n0 }) else (r, M)

theorem frzL_len (n0 : Nat) (H : List VObj) : ∀ vs, (frzL n0 H vs).length = vs.length
 | [] => rfl
 | v :: vs => by simp [frzL, frzL_len n0 H vs]
theorem frzL_get (n0 : Nat) (H : List VObj) : ∀ (vs : List VV) (i : Nat), (frzL n0 H vs)[i]? = (vs[i]?).map (frz n0 H)
 | [], i => by simp [frzL]
 | v :: vs, 0 => by simp [frzL]
 | v :: vs, i + 1 => by simp [frzL, frzL_get n0 H vs i]
theorem chunksOf_get (cs : List VV) (k : Nat) : ∀ (n off : Nat), (chunksOf cs k off n).length = n ∧ ∀ i, i < n → (chunksOf cs k off n)[i]? = some ((cs.drop (off + i * k)).take k)
 | 0, off => ⟨rfl, fun i h => absurd h (Nat.not_lt_zero _)⟩
 | n + 1, off => by
  obtain ⟨h1, h2⟩ := chunksOf_get cs k n (off + k)
  refine ⟨by simp [chunksOf, h1], fun i hi => ?_⟩
  cases i with
  | zero => simp [chunksOf]
  | succ i =>
   simp only [chunksOf, List.getElem?_cons_succ]
   rw [h2 i (by omega)]
   congr 3
   rw [Nat.succ_mul]
   omega

section
variable {P : Program} {T : Tab} {G : Ghost} {w : World} {K : Nat → Option Nat} {M : Mem}

theorem frz_ok (hI : Inv G w K M) {n0 : Nat} (hn : n0 ≤ M.H.length) {v : Value} {x : VV} (h : RepV w K M.H v x) : RepV w K M.H v x → (∀ r ∈ refs (frz n0 M.H x), r < n0) → RepV w K (M.H.take n0) v (frz n0 M.H x) := by
 induction h with
 | tup vs cs hs h ih =>
  intro _ hr
  simp only [frz] at hr ⊢
  refine .tup vs _ (by rw [frzL_len]; exact hs) fun i v c hv hc => ?_
  rw [frzL_get] at hc
  obtain ⟨c0, h0, rfl⟩ := Option.map_eq_some_iff.1 hc
  refine ih i v c0 hv h0 (h i v c0 hv h0) fun r hr' => hr r ?_
  rw [refs]
  refine mem_refsL.2 ⟨_, List.mem_of_getElem? (i := i) ?_, hr'⟩
  rw [frzL_get, h0]
  rfl
 | so v id k xs h ht => exact fun _ _ => (RepV.p (w := w) (K := K) (H := M.H) v (.sl k xs) h).keep (keep_take n0) (by simp [refs])
 | sf A k xs h => exact fun _ _ => (RepV.p (w := w) (K := K) (H := M.H) _ (.sl k xs) h).keep (keep_take n0) (by simp [refs])
 | bf id off n k b c A h hnc hc hm hA hz =>
  intro hx hr
  rw [frz] at hr ⊢
  cases hb : Nat.ble n0 id with
  | false =>
   rw [hb] at hr
   exact hx.keep (keep_take n0) hr
  | true =>
   rw [hb] at hr
   simp only [cond_true] at hr ⊢
   split at hr
   ·rename_i cs hcs
    cases hl : Nat.ble (off + n * k) cs.length with
    | false => rw [hl] at hr; exact hx.keep (keep_take n0) hr
    | true =>
     rw [hl] at hr
     simp only [cond_true] at hr ⊢
     cases hp : toPss (chunksOf cs k off n) with
     | none => rw [hp] at hr; exact hx.keep (keep_take n0) hr
     | some xs =>
      simp only
      have hle : off + n * k ≤ cs.length := by simpa [Nat.ble_eq] using hl
      have hnid : n0 ≤ id := by simpa [Nat.ble_eq] using hb
      obtain ⟨q1, q2⟩ := toPss_get hp
      obtain ⟨c1, c2⟩ := chunksOf_get cs k n off
      have hlen : xs.length = n := q1.trans c1
      by_cases hn0 : n = 0
      ·subst hn0
       obtain rfl := List.length_eq_zero_iff.1 hlen
       exact .p _ _ (.sl A c k 0 0 [] (fun _ _ => undef) (by simp; try omega) hm (by simp) (by simp) (by simp) (by simp) (by simp))
      obtain ⟨vs, t, h1, h2, h3⟩ := hI.obj id _ hcs _ (h hn0)
      have hid : id < M.H.length := (List.getElem?_eq_some_iff.1 hcs).1
      have hcell : ∀ i x j u, xs[i]? = some x → x[j]? = some u → ∃ cc v, cs[off + i * k + j]? = some cc ∧ toP cc = some u ∧ vs[off + i * k + j]? = some v := by
       intro i x j u hi hj
       have hin : i < n := by have := (List.getElem?_eq_some_iff.1 hi).1; omega
       obtain ⟨cs', hcs', htp⟩ := q2 i x hi
       rw [c2 i hin] at hcs'
       cases hcs'
       obtain ⟨cc, hcc, hu⟩ := (toPs_get htp).2 j u hj
       rw [List.getElem?_take] at hcc
       split at hcc
       ·rw [List.getElem?_drop] at hcc
        have hlt := (List.getElem?_eq_some_iff.1 hcc).1
        refine ⟨cc, vs[off + i * k + j]'(by omega), hcc, hu, Array.getElem?_eq_getElem _⟩
       ·cases hcc
      have hxk : ∀ x ∈ xs, x.length = k := by
       intro x hx'
       obtain ⟨i, hi⟩ := List.getElem?_of_mem hx'
       have hin : i < n := by have := (List.getElem?_eq_some_iff.1 hi).1; omega
       obtain ⟨cs', hcs', htp⟩ := q2 i x hi
       rw [c2 i hin] at hcs'
       cases hcs'
       rw [(toPs_get htp).1]
       have : i * k + k ≤ n * k := by
        calc i * k + k = (i + 1) * k := by rw [Nat.succ_mul]
         _ ≤ n * k := Nat.mul_le_mul_right k hin
       simp
       omega
      have him : ∀ o, Im K (M.H.take n0) b o := by
       intro o i ob hob hKi
       rw [List.getElem?_take] at hob
       split at hob
       ·rename_i hi
        by_cases hg : ob = .gone
        ·subst hg; exact .inl trivial
        have := hI.inj i id b (List.getElem?_eq_some_iff.1 hob).1 hid (by rw [hob]; simpa using hg) (by rw [hcs]; simp) hKi (h hn0)
        omega
       ·cases hob
      have key : RepV w K (M.H.take n0) (.slice A xs.length c) (.p (.sl k xs)) := by
       refine .p _ _ (.sl A c k b off xs (fun i j => vs.getD (off + i * k + j) undef) (by omega) hm hxk (fun _ => hA hn0) (fun i x j u hi hj => him _) (fun i x j u hi hj => ?_) fun i x j u hi hj => ?_)
       ·obtain ⟨cc, v, _, _, hv⟩ := hcell i x j u hi hj
        simp only [World.cell?, h1]
        simp [hv]
       ·obtain ⟨cc, v, hcc, hu, hv⟩ := hcell i x j u hi hj
        obtain ⟨hr1, _⟩ := h3 _ v cc hv hcc
        have hP := toP_rep (hr1) hu
        have : vs.getD (off + i * k + j) undef = v := by simp [hv]
        rw [this]
        exact hP.ext fun b1 o1 hb1 hi1 => (keep_take (w := w) (K := K) (H := M.H) n0).mem b1 o1 hb1 hi1
      rw [hlen] at key
      exact key
   ·exact hx.keep (keep_take n0) hr
 | _ => exact fun hx hr => hx.keep (keep_take n0) hr
end
end Go.Proofs.YtmiiipdgbkipjaaGreatDoor.Vm

/- A machine on values: a function's contract from its body, and the parts of a frame. -/
namespace Go.Proofs.YtmiiipdgbkipjaaGreatDoor.Vm
open Go

section
variable {P : Program} {T : Tab} {G : Ghost} {w : World} {K : Nat → Option Nat} {M : Mem}

theorem run_bind_ok {α β : Type} {x : Sem α} {f : α → Sem β} {v : α} {w w' : World} (h : x.run P w = .ok v w') : (x >>= f).run P w = (f v).run P w' := by
 simp [Sem.run_bind, h]
theorem resL_ok (hT : TabOk P T) (hI : Inv G w K M) {nt : Nat} {tmps : Array Value} {e : Env} (hf : FrOk w K M nt tmps e) (f : ResultVar → Sem Value) (f1 : ∀ t, f (.tmp t) = pure (tmps.getD t undef)) (f2 : ∀ a t, f (.cell a t) = (do loadVar t (← asAddr (tmps.getD a undef)))) : ∀ (l : List ResultVar) (vs : List VV), vresL T e M l = some vs →
  ∃ rvs, (l.mapM f).run P w = .ok rvs w ∧ PW (RepV w K M.H) rvs vs ∧ ∀ v ∈ vs, Cl M.H.length v
 | [], vs, h => by
  cases h
  exact ⟨[], by simp, ⟨rfl, fun i a b ha => by simp at ha⟩, by simp⟩
 | x :: l, vs, h => by
  cases x with
  | tmp t =>
   simp only [vresL] at h
   split at h
   ·rename_i vs' hvs
    cases h
    obtain ⟨rvs, h1, h2, h3⟩ := resL_ok hT hI hf f f1 f2 l vs' hvs
    refine ⟨tmps.getD t undef :: rvs, ?_, ⟨by simp [h2.1], fun i a b ha hb => ?_⟩, fun v hv => ?_⟩
    ·rw [List.mapM_cons]
     rw [f1, pure_bind, run_bind_ok h1]
     rfl
    ·cases i with
     | zero => cases ha; cases hb; exact hf.rep t
     | succ i => exact h2.2 i a b (by simpa using ha) (by simpa using hb)
    ·rcases List.mem_cons.1 hv with rfl | hv
     ·exact hf.cl t
     ·exact h3 v hv
   ·cases h
  | cell a t =>
   simp only [vresL] at h
   split at h
   ·rename_i v vs' hv hvs
    cases h
    obtain ⟨rvs, h1, h2, h3⟩ := resL_ok hT hI hf f f1 f2 l vs' hvs
    obtain ⟨rv, h4, h5, h6⟩ := vload_ok hT hI hv (hf.rep a) (hf.cl a)
    have h7 : (do loadVar t (← asAddr (tmps.getD a undef)) : Sem Value).run P w = .ok rv w := by
     generalize tmps.getD a undef = u at h4
     unfold Instr.loadAt at h4
     cases u with
     | pointer p =>
      cases p with
      | none => simp [Instr.sureAddr] at h4
      | some p => exact h4
     | _ => simp [Instr.sureAddr] at h4
    refine ⟨rv :: rvs, ?_, ⟨by simp [h2.1], fun i a b ha hb => ?_⟩, fun v' hv' => ?_⟩
    ·rw [List.mapM_cons]
     rw [f2, run_bind_ok h7, run_bind_ok h1]
     rfl
    ·cases i with
     | zero => cases ha; cases hb; exact h5
     | succ i => exact h2.2 i a b (by simpa using ha) (by simpa using hb)
    ·rcases List.mem_cons.1 hv' with rfl | hv'
     ·exact h6
     ·exact h3 v' hv'
   ·cases h
theorem results_ok (hT : TabOk P T) (hI : Inv G w K M) {nt : Nat} {fn : Func} {tmps : Array Value} {e : Env} {vs : List VV} (hf : FrOk w K M nt tmps e) (h : vresL T e M fn.results.toList = some vs) :
  ∃ rv, (results fn tmps).run P w = .ok rv w ∧ RepV w K M.H rv (vtup vs) ∧ Cl M.H.length (vtup vs) := by
 obtain ⟨rvs, h1, h2, h3⟩ := resL_ok hT hI hf (fun x => match x with
  | .tmp t => pure (tmps.getD t undef)
  | .cell a t => do loadVar t (← asAddr (tmps.getD a undef))) (fun _ => rfl) (fun _ _ => rfl) _ vs h
 unfold results
 rw [Array.mapM_eq_mapM_toList]
 refine ⟨if h : rvs.toArray.size = 1 then rvs.toArray[0] else .tuple rvs.toArray, ?_, ?_⟩
 ·rw [map_eq_pure_bind, bind_assoc]
  exact run_bind_ok h1
 ·match rvs, vs, h2, h3 with
  | [], [], h2, h3 => exact ⟨.tup _ _ rfl (by simp), fun r hr => by simp [vtup, refs, refsL] at hr⟩
  | [a], [b], h2, h3 => exact ⟨h2.2 0 a b rfl rfl, h3 b (by simp)⟩
  | a :: b :: l, c :: d :: l', h2, h3 =>
   rw [dif_neg (by simp)]
   exact ⟨.tup _ _ (by simpa using h2.1) fun i v x hv hx => h2.2 i v x (by simpa using hv) hx, fun r hr => by
    rw [show vtup (c :: d :: l') = .tup (c :: d :: l') from rfl, refs] at hr
    obtain ⟨x, hx, hr⟩ := mem_refsL.1 hr
    exact h3 x hx r hr⟩
  | [], _ :: _, h2, _ => exact absurd h2.1 (by simp)
  | _ :: _, [], h2, _ => exact absurd h2.1 (by simp)
  | [_], _ :: _ :: _, h2, _ => exact absurd h2.1 (by simp)
  | _ :: _ :: _, [_], h2, _ => exact absurd h2.1 (by simp)

def retQ (T : Tab) (f n0 : Nat) (fn : Func) (Q : VV → Mem → Prop) : PQ := fun ex e M D =>
 match ex with
 | .normal | .ret => match vkill n0 D M.H with
  | some H => match vresL T e { M with H := H } fn.results.toList with
   | some vs => Q (vfinish T f n0 (vtup vs) { M with H := H }).1 (vfinish T f n0 (vtup vs) { M with H := H }).2
   | none => False
  | none => False
 | _ => False

theorem Keep.refl (p : Nat → Prop) (H : List VObj) : Keep p w K H w K H := ⟨Szp.refl _, fun _ _ _ h => ⟨h, rfl⟩, fun _ _ h => ⟨fun _ h => h, h⟩, fun _ m k _ h => ⟨m, h, Nat.le_refl _, fun _ => ⟨rfl, fun _ _ => rfl⟩⟩⟩
theorem Keep.trans {p : Nat → Prop} {w w' w'' : World} {K K' K'' : Nat → Option Nat} {H H' H'' : List VObj} (h : Keep p w K H w' K' H') (hs : w.heap.size ≤ w'.heap.size) (h' : Keep p w' K' H' w'' K'' H'') : Keep p w K H w'' K'' H'' := by
 refine ⟨h.sz.trans h'.sz, fun b o hb hi => ?_, fun i hp hn => ?_, fun i m k hp hm => ?_⟩
 ·obtain ⟨a1, a2⟩ := h.mem b o hb hi
  obtain ⟨b1, b2⟩ := h'.mem b o (Nat.lt_of_lt_of_le hb hs) a1
  exact ⟨b1, b2.trans a2⟩
 ·obtain ⟨a1, a2⟩ := h.key i hp hn
  obtain ⟨b1, b2⟩ := h'.key i hp a2
  exact ⟨fun b h => b1 b (a1 b h), b2⟩
 ·obtain ⟨m1, b1, b2, b3⟩ := h'.tok i m k hp hm
  obtain ⟨m0, a1, a2, a3⟩ := h.tok i m1 k hp b1
  refine ⟨m0, a1, by omega, fun e => ?_⟩
  obtain ⟨c1, c2⟩ := b3 (by omega)
  obtain ⟨d1, d2⟩ := a3 (by omega)
  exact ⟨c1.trans d1, fun b hb => (c2 b (d1.trans hb)).trans (d2 b hb)⟩
theorem kills {fn : Func} {tmps : Array Value} {R : Ending → World → Prop} {n0 : Nat} : ∀ (ds : List Deferred) (D : List Nat) (w : World) (M : Mem) (H : List VObj), PW (fun (d : Deferred) (id : Nat) => ∃ b, K id = some b ∧ d = { target := .collected b, args := #[] }) ds D →
  Inv G w K M → vkill n0 D M.H = some H →
  (∀ w', Inv G w' K { M with H := H } → Keep (fun _ => True) w K M.H w' K H → w.heap.size ≤ w'.heap.size → M.H.length = H.length → (∀ i, i < n0 → H[i]? = M.H[i]? ∧ (M.H[i]? ≠ some .gone → ∀ b, i < M.H.length → K i = some b → w'.heap[b]? = w.heap[b]?)) → LeavesInM Fence.wide 0 P fn tmps R [] .returning w') → LeavesInM Fence.wide 0 P fn tmps R ds .returning w
 | [], [], w, M, H, _, hI, hk, hl => by
  cases hk
  exact hl w hI (Keep.refl _ _) (Nat.le_refl _) rfl fun i _ => ⟨rfl, fun _ _ _ _ => rfl⟩
 | d :: ds, id :: D, w, M, H, hp, hI, hk, hl => by
  obtain ⟨b, hb, rfl⟩ := hp.2 0 d id rfl rfl
  simp only [vkill] at hk
  cases hle : Nat.ble n0 id with
  | false => rw [hle] at hk; cases hk
  | true =>
   rw [hle] at hk
   simp only [cond_true] at hk
   split at hk
   case h_2 => cases hk
   rename_i hd
   have hle' : n0 ≤ id := by simpa [Nat.ble_eq] using hle
   obtain ⟨h1, h2, h3, h4⟩ := step_kill (P := P) hI hd hb
   refine ⟨by simp, .inl ⟨b, _, rfl, h1, ?_⟩⟩
   refine kills ds D _ { M with H := M.H.set id .dead } H ⟨by have := hp.1; simpa using this, fun i a id' ha hid => hp.2 (i + 1) a id' (by simpa using ha) (by simpa using hid)⟩ h3 hk fun w' q1 q2 q3 q4 q5 => ?_
   ·have hsz : w.heap.size ≤ ({ w with heap := w.heap.setIfInBounds b (.deferred none) } : World).heap.size := by simp
    refine hl w' q1 (h2.trans hsz q2) (Nat.le_trans hsz q3) (by simpa using q4) fun i hi => ?_
    obtain ⟨e1, e2⟩ := q5 i hi
    have hne : id ≠ i := by omega
    refine ⟨e1.trans (by simp [List.getElem?_set_ne hne]), fun hg b' hil hb' => (e2 (by simpa [List.getElem?_set_ne hne] using hg) b' (by simpa using hil) hb').trans (h4 b' fun e => ?_)⟩
    subst e
    exact hne (hI.inj id i b' (List.getElem?_eq_some_iff.1 hd).1 hil (by rw [hd]; simp) hg hb hb')
 | [], _ :: _, _, _, _, hp, _, _, _ => absurd hp.1 (by simp)
 | _ :: _, [], _, _, _, hp, _, _, _ => absurd hp.1 (by simp)

theorem zipEnv_get : ∀ (args : List VV) (i t : Nat), get (zipEnv i args) t = if i ≤ t then (args[t - i]?).getD .any else .any
 | [], i, t => by simp [zipEnv, get]
 | v :: vs, i, t => by
  rw [zipEnv, get_cons, zipEnv_get vs]
  by_cases h : t = i
  ·subst h; simp
  ·rw [if_neg h]
   by_cases h' : i ≤ t
   ·rw [if_pos h', if_pos (by omega : i + 1 ≤ t), show t - i = (t - (i + 1)) + 1 by omega, List.getElem?_cons_succ]
   ·rw [if_neg h', if_neg (by omega)]

theorem finish_ok {n0 f : Nat} {w0 : World} {K0 : Nat → Option Nat} {H0 : List VObj} {rv : Value} {r : VV} (hl : H0.length = n0) (he : Ext w0 K0 H0 w K M.H) (hI : Inv G w K M) (hr : RepV w K M.H rv r) (hc : Cl M.H.length r) :
  RepV w K (vfinish T f n0 r M).2.H rv (vfinish T f n0 r M).1 ∧ Cl (vfinish T f n0 r M).2.H.length (vfinish T f n0 r M).1 ∧ Ext w0 K0 H0 w K (vfinish T f n0 r M).2.H ∧ Inv G w K (vfinish T f n0 r M).2 := by
 have hn : n0 ≤ M.H.length := hl ▸ he.len
 unfold vfinish
 cases T.keeps f with
 | true => exact ⟨hr, hc, he, hI⟩
 | false =>
  simp only [cond_false]
  cases hb : (M.lg.filter fun e => Nat.blt e.1 n0).all (fun e => Nat.blt e.2 n0) && (refs (frz n0 M.H r)).all (Nat.blt · n0) with
  | true =>
   simp only [cond_true]
   simp only [Bool.and_eq_true, List.all_eq_true, Nat.blt_eq, List.mem_filter] at hb
   obtain ⟨h1, h2⟩ := hb
   refine ⟨frz_ok hI hn hr hr h2, fun q hq => ?_, ?_, ?_⟩
   ·have := h2 q hq
    simp only [List.length_take]
    omega
   ·refine he.keep (keep_take n0) (Nat.le_refl _) fun i hi => ⟨?_, rfl, fun _ _ _ => rfl⟩
    rw [List.getElem?_take_of_lt (by omega)]
   ·refine inv_take hI hn (fun e he1 he2 => ⟨h1 e ⟨he1, he2⟩, ?_⟩) fun e he1 => ?_
    ·simp only [List.mem_filter, Nat.blt_eq]
     exact ⟨he1, he2⟩
    ·simp only [List.mem_filter, Nat.blt_eq] at he1
     exact ⟨he1.2, h1 e he1⟩
  | false => exact ⟨hr, hc, he, hI⟩

theorem VC_fn (hT : TabOk P T) {f : Nat} {fn : Func} {c : Code} {args : List VV} {Q : VV → Mem → Prop} (hf : T.fn f = some fn) (hb : fn.body = some c) (hn : args.length ≤ fn.ntmps)
  (h : (∀ e ∈ M.lg, e.1 < M.H.length ∧ e.2 < M.H.length) → WCode P ⟨f, none, fn.ntmps⟩ c (zipEnv 0 args) M [] (retQ T f M.H.length fn Q)) : VC P f args M Q := by
 intro G w K rargs hI ha
 refine callsIn_of_wp_marks (hT.fn f fn hf).1 hb trivial ?_ rfl
 have hsz : rargs.size = args.length := by simpa using ha.rep.1
 have hs : StOk ⟨f, none, fn.ntmps⟩ G w K M { tmps := rargs ++ Array.replicate (fn.ntmps - rargs.size) undef, defers := [] } (zipEnv 0 args) [] := by
  refine ⟨⟨by simp; omega, fun t => ?_, fun t => ?_⟩, ⟨rfl, fun i a b ha => by simp at ha⟩, hI, fun id hid => by cases hid⟩
  ·rw [zipEnv_get, if_pos (Nat.zero_le _)]
   simp only [Nat.sub_zero]
   rcases Nat.lt_or_ge t args.length with hlt | hge
   ·have e1 : args[t]? = some args[t] := List.getElem?_eq_getElem hlt
    have e2 : rargs[t]? = some (rargs[t]'(by omega)) := Array.getElem?_eq_getElem (by omega)
    rw [e1, Array.getD_eq_getD_getElem?, Array.getElem?_append_left (by omega), e2]
    exact ha.rep.2 t _ _ (by rw [Array.getElem?_toList]; exact e2) e1
   ·rw [List.getElem?_eq_none hge]
    exact .any _
  ·rw [zipEnv_get, if_pos (Nat.zero_le _)]
   simp only [Nat.sub_zero]
   rcases Nat.lt_or_ge t args.length with hlt | hge
   ·rw [List.getElem?_eq_getElem hlt]
    exact ha.cl _ (List.getElem_mem _)
   ·rw [List.getElem?_eq_none hge]
    exact cl_any _
 refine wpIn_mono (h hI.lg G w K _ hs) ?_
 rintro ex a' w' ⟨e', M', K', D', h1, h2, h3, h4⟩
 have main : ∀ {H : List VObj} {vs : List VV}, vkill M.H.length D' M'.H = some H → vresL T e' { M' with H := H } fn.results.toList = some vs →
   Q (vfinish T f M.H.length (vtup vs) { M' with H := H }).1 (vfinish T f M.H.length (vtup vs) { M' with H := H }).2 → LeavesInM Fence.wide 0 P fn a'.tmps (Post G w K M Q) a'.defers .returning w' := by
  intro H vs hk hv hq
  refine kills a'.defers D' w' M' H ⟨h3.df.1, fun i d id hd hid => by obtain ⟨b, e1, e2, _⟩ := h3.df.2 i d id hd hid; exact ⟨b, e1, e2⟩⟩ h3.inv hk fun w2 q1 q2 q3 q4 q5 => ?_
  have hf2 : FrOk w2 K' { M' with H := H } fn.ntmps a'.tmps e' := ⟨h3.fr.size, fun t => (h3.fr.rep t).keep q2 fun _ _ => trivial, fun t => (h3.fr.cl t).mono (Nat.le_of_eq q4)⟩
  obtain ⟨rv, r1, r2, r3⟩ := results_ok hT q1 hf2 hv
  have he2 : Ext w K M.H w2 K' H := h4.keep q2 q3 fun i hi => ⟨(q5 i hi).1, rfl, fun hg b hb => (q5 i hi).2 hg b (Nat.lt_of_lt_of_le hi h4.len) hb⟩
  obtain ⟨f1, f2, f3, f4⟩ := finish_ok (T := T) (f := f) (M := { M' with H := H }) rfl he2 q1 r2 r3
  exact ⟨rv, r1, rv, _, K', _, rfl, hq, f1, f2, f3, f4⟩
 have main2 : retQ T f M.H.length fn Q .ret e' M' D' → LeavesInM Fence.wide 0 P fn a'.tmps (Post G w K M Q) a'.defers .returning w' := by
  intro h1
  simp only [retQ] at h1
  split at h1
  ·rename_i H hk
   split at h1
   ·rename_i vs hv
    exact main hk hv h1
   ·cases h1
  ·cases h1
 cases ex with
 | normal => exact main2 h1
 | ret => exact main2 h1
 | exit id => exact h1.elim
 | _ => exact h2.elim
end
end Go.Proofs.YtmiiipdgbkipjaaGreatDoor.Vm

/- A machine on values: ranges over functions, and their rounds. -/
namespace Go.Proofs.YtmiiipdgbkipjaaGreatDoor.Vm
open Go

def LoopV.with (L : LoopV) (st : LoopState) (pd : Option Code) : LoopV := { L with st := st, pend := pd }
def Mem.loop (M : Mem) (id : Nat) (L : LoopV) : Mem := { M with H := M.H.set id (.lp L) }

def lw (w : World) (b : Nat) (R : Loop) (st : LoopState) (pd : Option Code) : World := { w with heap := w.heap.setIfInBounds b (.loop { R with state := st, pending := pd }) }
section
variable {P : Program} {T : Tab} {G : Ghost} {w : World} {K : Nat → Option Nat} {M : Mem}

end
end Go.Proofs.YtmiiipdgbkipjaaGreatDoor.Vm

/- A machine on values: the rule of ranges over functions, and of yield. -/
namespace Go.Proofs.YtmiiipdgbkipjaaGreatDoor.Vm
open Go

section
variable {P : Program} {T : Tab} {cx : Cx} {e : Env} {M : Mem} {D : List Nat} {Q : PQ}

end
end Go.Proofs.YtmiiipdgbkipjaaGreatDoor.Vm

/- A machine on values: yield. -/
namespace Go.Proofs.YtmiiipdgbkipjaaGreatDoor.Vm
open Go

section
variable {P : Program} {T : Tab} {G : Ghost} {w : World} {K : Nat → Option Nat} {M : Mem}
end
end Go.Proofs.YtmiiipdgbkipjaaGreatDoor.Vm
