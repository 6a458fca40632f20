/- A part of the proofs about the chapter of the vaults; it states no condition of its own. -/
import Derived.Test.YtnjgdlmddlinaaaDoorB06
set_option linter.unusedVariables false
set_option linter.unusedSimpArgs false
/- A machine on values: functions, and what is left of their memory. -/
namespace Go.Proofs.YtnjgdlmddlinaaaDoor.Vm
open Go

structure Keep (p : Nat → Prop) (w : World) (K : Nat → Option Nat) (H : List VObj) (w' : World) (K' : Nat → Option Nat) (H' : List VObj) : Prop where
 sz : Szp w w'
 mem : ∀ b o, b < w.heap.size → Im K H b o → Im K' H' b o ∧ w'.cell? ⟨b, o, none⟩ = w.cell? ⟨b, o, none⟩
 key : ∀ i, p i → (∀ m k, H[i]? ≠ some (.clm m k)) → (∀ b, K i = some b → K' i = some b) ∧ ∀ m k, H'[i]? ≠ some (.clm m k)
 tok : ∀ i m k, p i → H'[i]? = some (.clm m k) → ∃ m0, H[i]? = some (.clm m0 k) ∧ m0 ≤ m ∧ (m = m0 → K' i = K i ∧ ∀ b, K i = some b → w'.heap[b]? = w.heap[b]?)
section
variable {P : Program} {p : Nat → Prop} {w w' : World} {K K' : Nat → Option Nat} {H H' : List VObj} {M M' : Mem} {G : Ghost}
theorem RepV.keep {v : Value} {x : VV} (h : RepV w K H v x) (he : Keep p w K H w' K' H') (hc : ∀ r ∈ refs x, p r) : RepV w' K' H' v x := by
 have hP : ∀ {v : Value} {x : PV}, RepP w (Im K H) v x → RepP w' (Im K' H') v x := fun h => h.ext fun b o hb hi => he.mem b o hb hi
 induction h with
 | p v x h => exact .p v x (hP h)
 | any v => exact .any v
 | agg vs cs hs h1 h ih => exact .agg vs cs hs h1 fun i v c a b => ih i v c a b fun r hr => hc r (by rw [refs]; exact refsL_get b hr)
 | tup vs cs hs h ih => exact .tup vs cs hs fun i v c a b => ih i v c a b fun r hr => hc r (by rw [refs]; exact refsL_get b hr)
 | so v id k xs h ht =>
  refine .so v id k xs (hP h) fun m k' hm => ?_
  obtain ⟨m0, h0, hle, hk⟩ := he.tok id m k' (hc id (by simp [refs])) hm
  obtain ⟨h1, h2⟩ := ht m0 k' h0
  refine ⟨by omega, fun e => ?_⟩
  have e0 : m = m0 := by omega
  obtain ⟨e1, e2⟩ := hk e0
  obtain ⟨rfl, h3⟩ := h2 (by omega)
  refine ⟨rfl, ?_⟩
  rcases h3 with ⟨b, c, vs, t, hb, hv, hw, hcc⟩ | ⟨hb, hv⟩
  ·exact .inl ⟨b, c, vs, t, e1.trans hb, hv, (e2 b hb).trans hw, hcc⟩
  ·exact .inr ⟨e1.trans hb, hv⟩
 | sf A k xs h => exact .sf A k xs (hP h)
 | ptr id off b h hn =>
  obtain ⟨h1, h2⟩ := he.key id (hc id (by simp [refs])) hn
  exact .ptr id off b (h1 b h) h2
 | ip cs b off f hi hw hr =>
  exact .ip cs b off f (fun j u a => (he.mem _ _ (cell_lt (hw j u a)) (hi j u a)).1) (fun j u a => (he.mem _ _ (cell_lt (hw j u a)) (hi j u a)).2.trans (hw j u a)) fun j u a => hP (hr j u a)
 | iv cs b off f hi hw hr h1 ih =>
  exact .iv cs b off f (fun j u a => (he.mem _ _ (cell_lt (hw j u a)) (hi j u a)).1) (fun j u a => (he.mem _ _ (cell_lt (hw j u a)) (hi j u a)).2.trans (hw j u a))
   (fun j u a => ih j u a fun r hr => hc r (by rw [refs]; exact refsL_get a hr)) h1
 | bf id off n k b c A h hn h2 hm hA hz =>
  obtain ⟨h3, h4⟩ := he.key id (hc id (by simp [refs])) hn
  exact .bf id off n k b c A (fun hne => h3 b (h hne)) h4 h2 hm hA fun hne => (hz hne).sz he.sz
 | mp id b h hn =>
  obtain ⟨h3, h4⟩ := he.key id (hc id (by simp [refs])) hn
  exact .mp id b (h3 b h) h4
 | fn f us vs as bs hs ht h h' ih ih' =>
  exact .fn f us vs as bs hs ht (fun i v c a b => ih i v c a b fun r hr => hc r (by rw [refs, List.mem_append]; exact .inl (refsL_get b hr)))
   fun i v c a b => ih' i v c a b fun r hr => hc r (by rw [refs, List.mem_append]; exact .inr (refsL_get b hr))
 | sv A c k b off xs f hcc hm hk hA hi hw hr h1 ih =>
  exact .sv A c k b off xs f hcc hm hk hA (fun i x j u h1 h2 => (he.mem _ _ (cell_lt (hw i x j u h1 h2)) (hi i x j u h1 h2)).1)
   (fun i x j u h1 h2 => (he.mem _ _ (cell_lt (hw i x j u h1 h2)) (hi i x j u h1 h2)).2.trans (hw i x j u h1 h2))
   (fun i x j u a a' => ih i x j u a a' fun r hr => hc r (by rw [refs]; exact refsLL_get a a' hr)) h1
 | sw v id k xs h ht ih =>
  refine .sw v id k xs (ih fun r hr => hc r (by simp only [refs] at hr; simp only [refs, List.mem_cons]; exact .inr hr)) fun m k' hm => ?_
  obtain ⟨m0, h0, hle, hk⟩ := he.tok id m k' (hc id (by simp [refs])) hm
  obtain ⟨h1, h2⟩ := ht m0 k' h0
  refine ⟨by omega, fun e => ?_⟩
  have e0 : m = m0 := by omega
  obtain ⟨e1, e2⟩ := hk e0
  obtain ⟨rfl, h3⟩ := h2 (by omega)
  refine ⟨rfl, ?_⟩
  rcases h3 with ⟨b, c, vs, t, hb, hv, hw, hcc⟩ | ⟨hb, hv⟩
  ·exact .inl ⟨b, c, vs, t, e1.trans hb, hv, (e2 b hb).trans hw, hcc⟩
  ·exact .inr ⟨e1.trans hb, hv⟩
 | yl id b h hn =>
  obtain ⟨h3, h4⟩ := he.key id (hc id (by simp [refs])) hn
  exact .yl id b (h3 b h) h4
theorem ObjOk.keep {kb : Option Nat} {o : VObj} (h : ObjOk w K H kb o) (he : Keep p w K H w' K' H') (hb : ∀ b, kb = some b → w'.heap[b]? = w.heap[b]?)
  (hc : ∀ c ∈ contents o, ∀ r ∈ refs c, p r) (hd : ∀ L, o = .lp L → p L.dfr ∧ L.dfr < H'.length) : ObjOk w' K' H' kb o := by
 cases o with
 | obj cs =>
  intro b e
  obtain ⟨vs, t, h1, h2, h3⟩ := h b e
  exact ⟨vs, t, (hb b e).trans h1, h2, fun i v c a b => ⟨(h3 i v c a b).1.keep he (hc c (List.mem_of_getElem? b)), (h3 i v c a b).2⟩⟩
 | clm m k =>
  intro b e
  obtain ⟨vs, t, h1, h2⟩ := h b e
  exact ⟨vs, t, (hb b e).trans h1, h2⟩
 | mpo sh es =>
  obtain ⟨b, ents, clock, e, h1, h2, hst, h3⟩ := h
  refine ⟨b, ents, clock, e, (hb b e).trans h1, h2, hst, fun i x ks v a b => ?_⟩
  obtain ⟨p, q, r⟩ := h3 i x ks v a b
  exact ⟨p, q, r.keep he (hc v (List.mem_map.2 ⟨(ks, v), List.mem_of_getElem? b, rfl⟩))⟩
 | lp l =>
  obtain ⟨b, L, d, e, h1, a1, a2, a3, a4, a5, a6, a7, a8, a9, a10, a11, h3⟩ := h
  obtain ⟨d1, d2⟩ := hd l rfl
  obtain ⟨k1, k2⟩ := he.key l.dfr d1 a8
  refine ⟨b, L, d, e, (hb b e).trans h1, a1, a2, a3, a4, a5, a6, k1 d a7, k2, d2, a10, a11, fun t => (h3 t).keep he ?_⟩
  rcases get_mem (e := l.tm) (t := t) with h5 | ⟨k, h5⟩
  ·rw [h5]; intro r hr; simp [refs] at hr
  ·exact hc _ (List.mem_map.2 ⟨_, h5, rfl⟩)
 | dfr =>
  obtain ⟨b, e, h1⟩ := h
  exact ⟨b, e, (hb b e).trans h1⟩
 | dead => exact trivial
 | gone => exact trivial
 | bld tB tE j l =>
  obtain ⟨b, v, p, e, h1, h2, h3, h4⟩ := h
  exact ⟨b, v, p, e, (hb b e).trans h1, h2, h3.keep he (hc _ (List.mem_singleton.2 rfl)), h4.sz he.sz⟩
theorem ObjOk.keepg {kb : Option Nat} {o : VObj} (h : ObjOk w K H kb o) (he : Keep p w K H w' K' H') (hb : o ≠ .gone → ∀ b, kb = some b → w'.heap[b]? = w.heap[b]?)
  (hc : ∀ c ∈ contents o, ∀ r ∈ refs c, p r) (hd : ∀ L, o = .lp L → p L.dfr ∧ L.dfr < H'.length) : ObjOk w' K' H' kb o := by
 by_cases hg : o = .gone
 ·subst hg
  exact trivial
 ·exact h.keep he (hb hg) hc hd
theorem keep_take (n : Nat) : Keep (· < n) w K H w K (H.take n) := by
 have hget : ∀ i ob, (H.take n)[i]? = some ob → H[i]? = some ob ∧ i < n := fun i ob h => by
  rw [List.getElem?_take] at h
  split at h
  ·rename_i hi; exact ⟨h, hi⟩
  ·cases h
 exact ⟨Szp.refl _, fun b o _ hi => ⟨fun i ob hob hK => hi i ob (hget i ob hob).1 hK, rfl⟩, fun i _ hn => ⟨fun _ h => h, fun m k hm => hn m k (hget i _ hm).1⟩, fun i m k _ hm => ⟨m, (hget i _ hm).1, Nat.le_refl _, fun _ => ⟨rfl, fun _ _ => rfl⟩⟩⟩
theorem Ext.keep {w0 : World} {K0 : Nat → Option Nat} {H0 : List VObj} (he : Ext w0 K0 H0 w K H) (hk : Keep p w K H w' K' H') (hs : w.heap.size ≤ w'.heap.size)
  (hi : ∀ i, i < H0.length → H'[i]? = H[i]? ∧ K' i = K i ∧ (H[i]? ≠ some .gone → ∀ b, K i = some b → w'.heap[b]? = w.heap[b]?)) : Ext w0 K0 H0 w' K' H' := by
 refine ⟨Nat.le_trans he.size hs, he.sz.trans hk.sz, fun b o hb h => (hk.mem b o (Nat.lt_of_lt_of_le hb he.size) (he.im b o hb h)).1, fun b o hb h => (hk.mem b o (Nat.lt_of_lt_of_le hb he.size) (he.im b o hb h)).2.trans (he.cell b o hb h), fun i o ho => ?_⟩
 obtain ⟨o', h1, h2⟩ := he.obj i o ho
 obtain ⟨e1, e2, e3⟩ := hi i (List.getElem?_eq_some_iff.1 ho).1
 refine ⟨o', e1.trans h1, ?_⟩
 cases o with
 | clm m k =>
  obtain ⟨m', a1, a2, a3⟩ := h2
  refine ⟨m', a1, a2, fun e => ?_⟩
  obtain ⟨b1, b2⟩ := a3 e
  exact ⟨e2.trans b1, fun b hb => (e3 (by rw [h1, a1]; simp) b (b1.trans hb)).trans (b2 b hb)⟩
 | dead =>
  obtain ⟨a1, a2, a3⟩ := h2
  exact ⟨a1, e2.trans a2, fun b hb => (e3 (by rw [h1, a1]; simp) b (a2.trans hb)).trans (a3 b hb)⟩
 | dfr => exact ⟨h2.1, e2.trans h2.2⟩
 | lp L => exact ⟨h2.1, e2.trans h2.2⟩
 | obj cs => exact ⟨h2.1, e2.trans h2.2⟩
 | mpo sh es => exact ⟨h2.1, e2.trans h2.2⟩
 | gone => exact ⟨h2.1, e2.trans h2.2⟩
 | bld _ _ _ _ => exact ⟨h2.1, e2.trans h2.2⟩

theorem inv_take (hI : Inv G w K M) {n : Nat} (hn : n ≤ M.H.length) {lg' : List (Nat × Nat)} (h1 : ∀ e ∈ M.lg, e.1 < n → e.2 < n ∧ e ∈ lg') (h2 : ∀ e ∈ lg', e.1 < n ∧ e.2 < n) : Inv G w K { H := M.H.take n, lg := lg' } := by
 have hget : ∀ i ob, (M.H.take n)[i]? = some ob → M.H[i]? = some ob ∧ i < n := fun i ob h => by
  rw [List.getElem?_take] at h
  split at h
  ·rename_i hi; exact ⟨h, hi⟩
  ·cases h
 have hlen : (M.H.take n).length = n := by simp; omega
 have hcl : ∀ i o, M.H[i]? = some o → i < n → ∀ c ∈ contents o, ∀ r ∈ refs c, r < n ∧ (r ≤ i ∨ (i, r) ∈ lg') := fun i o ho hi c hc r hr => by
  obtain ⟨_, h | h⟩ := hI.cl i o ho c hc r hr
  ·exact ⟨by omega, .inl h⟩
  ·obtain ⟨a, b⟩ := h1 _ h hi
   exact ⟨a, .inr b⟩
 refine ⟨hI.os, hI.tape, hI.output, hI.size, hI.gB, hI.old, ?_, ?_, ?_, ?_, ?_, ?_⟩
 ·intro i j b hi hj n1 n2
  simp only [hlen] at hi hj
  simp only at n1 n2
  rw [List.getElem?_take_of_lt hi] at n1
  rw [List.getElem?_take_of_lt hj] at n2
  exact hI.inj i j b (by omega) (by omega) n1 n2
 ·intro i b hi
  simp only [hlen] at hi
  exact hI.blk i b (by omega)
 ·intro i o ho
  obtain ⟨a, b⟩ := hget i o ho
  refine (hI.obj i o a).keep (keep_take n) (fun _ _ => rfl) (fun c hc r hr => (hcl i o a b c hc r hr).1) fun L e => ?_
  subst e
  have := hI.lpd i L a
  exact ⟨by omega, by simp only [hlen]; omega⟩
 ·intro i o ho c hc r hr
  obtain ⟨a, b⟩ := hget i o ho
  simp only [hlen]
  exact hcl i o a b c hc r hr
 ·intro e he
  simp only [hlen]
  exact h2 e he
 ·intro i L hL
  exact hI.lpd i L (hget i _ hL).1

theorem step_kill (hI : Inv G w K M) {id b : Nat} (hi : M.H[id]? = some .dfr) (hK : K id = some b) :
  (Instr.takeDeferred b).run P w = .ok [] { w with heap := w.heap.setIfInBounds b (.deferred none) } ∧
   Keep (fun _ => True) w K M.H { w with heap := w.heap.setIfInBounds b (.deferred none) } K (M.H.set id .dead) ∧ Inv G { w with heap := w.heap.setIfInBounds b (.deferred none) } K { M with H := M.H.set id .dead } ∧
   ∀ b', b' ≠ b → ({ w with heap := w.heap.setIfInBounds b (.deferred none) } : World).heap[b']? = w.heap[b']? := by
 obtain ⟨b', e, hh⟩ := hI.obj id _ hi
 rw [hK] at e
 cases e
 have hset := MapKept.heap_set (o' := .deferred none) hh
 have hrun : (Instr.takeDeferred b).run P w = .ok [] { w with heap := w.heap.setIfInBounds b (.deferred none) } := by
  simp [Instr.takeDeferred, getObj, setObj, Sem.run, hh]
 have hil := (List.getElem?_eq_some_iff.1 hi).1
 have hkeep : Keep (fun _ => True) w K M.H { w with heap := w.heap.setIfInBounds b (.deferred none) } K (M.H.set id .dead) := by
  refine ⟨Szp.of_one (b0 := b) (fun b1 _ hne => hset.2 b1 hne) (fun v1 t1 z1 e1 => (by rw [hh] at e1; cases e1)), fun b1 o hb1 him => ?_, fun i _ hn => ⟨fun _ h => h, fun m k hm => ?_⟩, fun i m k _ hm => ?_⟩
  ·have hne : b1 ≠ b := fun e => by
    subst e
    rcases him id _ hi hK with e | ⟨m, k, e, _⟩
    ·exact e
    ·cases e
   refine ⟨fun i ob hob hKi => ?_, World.cell?_of_block (hset.2 b1 hne)⟩
   rcases set_get hob with ⟨rfl, rfl, _⟩ | ⟨h1, h2⟩
   ·rw [hK] at hKi
    cases hKi
    exact absurd rfl hne
   ·exact him i ob h2 hKi
  ·rcases set_get hm with ⟨rfl, e, _⟩ | ⟨h1, h2⟩
   ·cases e
   ·exact hn m k h2
  ·rcases set_get hm with ⟨rfl, e, _⟩ | ⟨h1, h2⟩
   ·cases e
   ·refine ⟨m, h2, Nat.le_refl _, fun _ => ⟨rfl, fun b1 hb1 => hset.2 b1 fun e => ?_⟩⟩
    subst e
    exact h1 (hI.inj i id b1 (List.getElem?_eq_some_iff.1 h2).1 hil (by rw [h2]; simp) (by rw [hi]; simp) hb1 hK)
 refine ⟨hrun, hkeep, ?_, hset.2⟩
 refine ⟨hI.os, hI.tape, hI.output, by simpa using hI.size, by simpa using hI.gB, fun b1 h1 h2 => ?_, ?_, ?_, ?_, ?_, ?_, ?_⟩
 ·refine (hset.2 b1 fun e => ?_).trans (hI.old b1 h1 h2)
  subst e
  rcases (hI.blk id b1 hil hK).2 with h | h
  ·omega
  ·exact h2 h
 ·intro p q b1 hp hq n1 n2
  rw [List.length_set] at hp hq
  have hg0 : M.H[id]? ≠ some .gone := by rw [hi]; simp
  refine hI.inj p q b1 hp hq ?_ ?_
  ·by_cases e : p = id
   ·rw [e]; exact hg0
   ·simp only at n1
    rwa [List.getElem?_set_ne (fun h => e h.symm)] at n1
  ·by_cases e : q = id
   ·rw [e]; exact hg0
   ·simp only at n2
    rwa [List.getElem?_set_ne (fun h => e h.symm)] at n2
 ·intro j b1 hj e
  rw [List.length_set] at hj
  exact ⟨by simpa using (hI.blk j b1 hj e).1, (hI.blk j b1 hj e).2⟩
 ·intro j x hx
  rcases set_get hx with ⟨rfl, rfl, _⟩ | ⟨h1, h2⟩
  ·exact trivial
  ·refine (hI.obj j x h2).keepg hkeep (fun hg b1 eb => hset.2 b1 fun e' => ?_) (fun _ _ _ _ => trivial) fun L e => ⟨trivial, ?_⟩
   ·subst e'
    exact h1 (hI.inj j id b1 (List.getElem?_eq_some_iff.1 h2).1 hil (by rw [h2]; simpa using hg) (by rw [hi]; simp) eb hK)
   ·subst e
    have := hI.lpd j L h2
    have := (List.getElem?_eq_some_iff.1 h2).1
    rw [List.length_set]
    omega
 ·intro j x hx c hcc r hr
  simp only [List.length_set]
  rcases set_get hx with ⟨rfl, rfl, _⟩ | ⟨h1, h2⟩
  ·simp [contents] at hcc
  ·exact hI.cl j x h2 c hcc r hr
 ·intro e he
  simp only [List.length_set]
  exact hI.lg e he
 ·intro j L hL
  rcases set_get hL with ⟨rfl, e, _⟩ | ⟨h1, h2⟩
  ·cases e
  ·exact hI.lpd j L h2
end
end Go.Proofs.YtnjgdlmddlinaaaDoor.Vm

/- A machine on values: a function's contract from its body. -/
namespace Go.Proofs.YtnjgdlmddlinaaaDoor.Vm
open Go

def zipEnv : Nat → List VV → Env
 | _, [] => []
 | i, v :: vs => (i, v) :: zipEnv (i + 1) vs
def vresL (T : Tab) (e : Env) (M : Mem) : List ResultVar → Option (List VV)
 | [] => some []
 | .tmp t :: r => match vresL T e M r with
  | some vs => some (get e t :: vs)
  | none => none
 | .cell a t :: r => match vload T t (get e a) M, vresL T e M r with
  | some v, some vs => some (v :: vs)
  | _, _ => none
def vtup : List VV → VV
 | [v] => v
 | vs => .tup vs
def vkill (n0 : Nat) : List Nat → List VObj → Option (List VObj)
 | [], H => some H
 | id :: D, H => bif Nat.ble n0 id then (match H[id]? with
   | some .dfr => vkill n0 D (H.set id .dead)
   | _ => none) else none
def chunksOf (cs : List VV) (k : Nat) : Nat → Nat → List (List VV)
 | _, 0 => []
 | off, n + 1 => ((cs.drop off).take k) :: chunksOf cs k (off + k) n
mutual
def frz (n0 : Nat) (H : List VObj) : VV → VV
 | .so _ k xs => .p (.sl k xs)
 | .sf k xs => .p (.sl k xs)
 | .bf id off n k => bif Nat.ble n0 id then (match H[id]? with
   | some (.obj cs) => bif Nat.ble (off + n * k) cs.length then (match toPss (chunksOf cs k off n) with
    | some xs => .p (.sl k xs)
    | none => .bf id off n k) else .bf id off n k
   | _ => .bf id off n k) else .bf id off n k
 | .tup vs => .tup (frzL n0 H vs)
 | v => v
def frzL (n0 : Nat) (H : List VObj) : List VV → List VV
 | [] => []
 | v :: vs => frz n0 H v :: frzL n0 H vs
end
def vfinish (T : Tab) (f n0 : Nat) (r : VV) (M : Mem) : VV × Mem :=
 bif T.keeps f then (r, M) else
 bif (M.lg.filter fun e => Nat.blt e.1 n0).all (fun e => Nat.blt e.2 n0) && (refs (frz n0 M.H r)).all (Nat.blt · n0) then
  (frz n0 M.H r, { H := M.H.take n0, lg := M.lg.filter fun e => Nat.blt e.1 n0 }) else (r, M)

theorem frzL_len (n0 : Nat) (H : List VObj) : ∀ vs, (frzL n0 H vs).length = vs.length
 | [] => rfl
 | v :: vs => by simp [frzL, frzL_len n0 H vs]
theorem frzL_get (n0 : Nat) (H : List VObj) : ∀ (vs : List VV) (i : Nat), (frzL n0 H vs)[i]? = (vs[i]?).map (frz n0 H)
 | [], i => by simp [frzL]
 | v :: vs, 0 => by simp [frzL]
 | v :: vs, i + 1 => by simp [frzL, frzL_get n0 H vs i]
theorem chunksOf_get (cs : List VV) (k : Nat) : ∀ (n off : Nat), (chunksOf cs k off n).length = n ∧ ∀ i, i < n → (chunksOf cs k off n)[i]? = some ((cs.drop (off + i * k)).take k)
 | 0, off => ⟨rfl, fun i h => absurd h (Nat.not_lt_zero _)⟩
 | n + 1, off => by
  obtain ⟨h1, h2⟩ := chunksOf_get cs k n (off + k)
  refine ⟨by simp [chunksOf, h1], fun i hi => ?_⟩
  cases i with
  | zero => simp [chunksOf]
  | succ i =>
   simp only [chunksOf, List.getElem?_cons_succ]
   rw [h2 i (by omega)]
   congr 3
   rw [Nat.succ_mul]
   omega

section
variable {P : Program} {T : Tab} {G : Ghost} {w : World} {K : Nat → Option Nat} {M : Mem}

theorem frz_ok (hI : Inv G w K M) {n0 : Nat} (hn : n0 ≤ M.H.length) {v : Value} {x : VV} (h : RepV w K M.H v x) : RepV w K M.H v x → (∀ r ∈ refs (frz n0 M.H x), r < n0) → RepV w K (M.H.take n0) v (frz n0 M.H x) := by
 induction h with
 | tup vs cs hs h ih =>
  intro _ hr
  simp only [frz] at hr ⊢
  refine .tup vs _ (by rw [frzL_len]; exact hs) fun i v c hv hc => ?_
  rw [frzL_get] at hc
  obtain ⟨c0, h0, rfl⟩ := Option.map_eq_some_iff.1 hc
  refine ih i v c0 hv h0 (h i v c0 hv h0) fun r hr' => hr r ?_
  rw [refs]
  refine mem_refsL.2 ⟨_, List.mem_of_getElem? (i := i) ?_, hr'⟩
  rw [frzL_get, h0]
  rfl
 | so v id k xs h ht => exact fun _ _ => (RepV.p (w := w) (K := K) (H := M.H) v (.sl k xs) h).keep (keep_take n0) (by simp [refs])
 | sf A k xs h => exact fun _ _ => (RepV.p (w := w) (K := K) (H := M.H) _ (.sl k xs) h).keep (keep_take n0) (by simp [refs])
 | bf id off n k b c A h hnc hc hm hA hz =>
  intro hx hr
  rw [frz] at hr ⊢
  cases hb : Nat.ble n0 id with
  | false =>
   rw [hb] at hr
   exact hx.keep (keep_take n0) hr
  | true =>
   rw [hb] at hr
   simp only [cond_true] at hr ⊢
   split at hr
   ·rename_i cs hcs
    cases hl : Nat.ble (off + n * k) cs.length with
    | false => rw [hl] at hr; exact hx.keep (keep_take n0) hr
    | true =>
     rw [hl] at hr
     simp only [cond_true] at hr ⊢
     cases hp : toPss (chunksOf cs k off n) with
     | none => rw [hp] at hr; exact hx.keep (keep_take n0) hr
     | some xs =>
      simp only
      have hle : off + n * k ≤ cs.length := by simpa [Nat.ble_eq] using hl
      have hnid : n0 ≤ id := by simpa [Nat.ble_eq] using hb
      obtain ⟨q1, q2⟩ := toPss_get hp
      obtain ⟨c1, c2⟩ := chunksOf_get cs k n off
      have hlen : xs.length = n := q1.trans c1
      by_cases hn0 : n = 0
      ·subst hn0
       obtain rfl := List.length_eq_zero_iff.1 hlen
       exact .p _ _ (.sl A c k 0 0 [] (fun _ _ => undef) (by simp; try omega) hm (by simp) (by simp) (by simp) (by simp) (by simp))
      obtain ⟨vs, t, h1, h2, h3⟩ := hI.obj id _ hcs _ (h hn0)
      have hid : id < M.H.length := (List.getElem?_eq_some_iff.1 hcs).1
      have hcell : ∀ i x j u, xs[i]? = some x → x[j]? = some u → ∃ cc v, cs[off + i * k + j]? = some cc ∧ toP cc = some u ∧ vs[off + i * k + j]? = some v := by
       intro i x j u hi hj
       have hin : i < n := by have := (List.getElem?_eq_some_iff.1 hi).1; omega
       obtain ⟨cs', hcs', htp⟩ := q2 i x hi
       rw [c2 i hin] at hcs'
       cases hcs'
       obtain ⟨cc, hcc, hu⟩ := (toPs_get htp).2 j u hj
       rw [List.getElem?_take] at hcc
       split at hcc
       ·rw [List.getElem?_drop] at hcc
        have hlt := (List.getElem?_eq_some_iff.1 hcc).1
        refine ⟨cc, vs[off + i * k + j]'(by omega), hcc, hu, Array.getElem?_eq_getElem _⟩
       ·cases hcc
      have hxk : ∀ x ∈ xs, x.length = k := by
       intro x hx'
       obtain ⟨i, hi⟩ := List.getElem?_of_mem hx'
       have hin : i < n := by have := (List.getElem?_eq_some_iff.1 hi).1; omega
       obtain ⟨cs', hcs', htp⟩ := q2 i x hi
       rw [c2 i hin] at hcs'
       cases hcs'
       rw [(toPs_get htp).1]
       have : i * k + k ≤ n * k := by
        calc i * k + k = (i + 1) * k := by rw [Nat.succ_mul]
         _ ≤ n * k := Nat.mul_le_mul_right k hin
       simp
       omega
      have him : ∀ o, Im K (M.H.take n0) b o := by
       intro o i ob hob hKi
       rw [List.getElem?_take] at hob
       split at hob
       ·rename_i hi
        by_cases hg : ob = .gone
        ·subst hg; exact .inl trivial
        have := hI.inj i id b (List.getElem?_eq_some_iff.1 hob).1 hid (by rw [hob]; simpa using hg) (by rw [hcs]; simp) hKi (h hn0)
        omega
       ·cases hob
      have key : RepV w K (M.H.take n0) (.slice A xs.length c) (.p (.sl k xs)) := by
       refine .p _ _ (.sl A c k b off xs (fun i j => vs.getD (off + i * k + j) undef) (by omega) hm hxk (fun _ => hA hn0) (fun i x j u hi hj => him _) (fun i x j u hi hj => ?_) fun i x j u hi hj => ?_)
       ·obtain ⟨cc, v, _, _, hv⟩ := hcell i x j u hi hj
        simp only [World.cell?, h1]
        simp [hv]
       ·obtain ⟨cc, v, hcc, hu, hv⟩ := hcell i x j u hi hj
        obtain ⟨hr1, _⟩ := h3 _ v cc hv hcc
        have hP := toP_rep (hr1) hu
        have : vs.getD (off + i * k + j) undef = v := by simp [hv]
        rw [this]
        exact hP.ext fun b1 o1 hb1 hi1 => (keep_take (w := w) (K := K) (H := M.H) n0).mem b1 o1 hb1 hi1
      rw [hlen] at key
      exact key
   ·exact hx.keep (keep_take n0) hr
 | _ => exact fun hx hr => hx.keep (keep_take n0) hr
end
end Go.Proofs.YtnjgdlmddlinaaaDoor.Vm

/- A machine on values: a function's contract from its body, and the parts of a frame. -/
namespace Go.Proofs.YtnjgdlmddlinaaaDoor.Vm
open Go

section
variable {P : Program} {T : Tab} {G : Ghost} {w : World} {K : Nat → Option Nat} {M : Mem}

theorem run_bind_ok {α β : Type} {x : Sem α} {f : α → Sem β} {v : α} {w w' : World} (h : x.run P w = .ok v w') : (x >>= f).run P w = (f v).run P w' := by
 simp [Sem.run_bind, h]
theorem resL_ok (hT : TabOk P T) (hI : Inv G w K M) {nt : Nat} {tmps : Array Value} {e : Env} (hf : FrOk w K M nt tmps e) (f : ResultVar → Sem Value) (f1 : ∀ t, f (.tmp t) = pure (tmps.getD t undef)) (f2 : ∀ a t, f (.cell a t) = (do loadVar t (← asAddr (tmps.getD a undef)))) : ∀ (l : List ResultVar) (vs : List VV), vresL T e M l = some vs →
  ∃ rvs, (l.mapM f).run P w = .ok rvs w ∧ PW (RepV w K M.H) rvs vs ∧ ∀ v ∈ vs, Cl M.H.length v
 | [], vs, h => by
  cases h
  exact ⟨[], by simp, ⟨rfl, fun i a b ha => by simp at ha⟩, by simp⟩
 | x :: l, vs, h => by
  cases x with
  | tmp t =>
   simp only [vresL] at h
   split at h
   ·rename_i vs' hvs
    cases h
    obtain ⟨rvs, h1, h2, h3⟩ := resL_ok hT hI hf f f1 f2 l vs' hvs
    refine ⟨tmps.getD t undef :: rvs, ?_, ⟨by simp [h2.1], fun i a b ha hb => ?_⟩, fun v hv => ?_⟩
    ·rw [List.mapM_cons]
     rw [f1, pure_bind, run_bind_ok h1]
     rfl
    ·cases i with
     | zero => cases ha; cases hb; exact hf.rep t
     | succ i => exact h2.2 i a b (by simpa using ha) (by simpa using hb)
    ·rcases List.mem_cons.1 hv with rfl | hv
     ·exact hf.cl t
     ·exact h3 v hv
   ·cases h
  | cell a t =>
   simp only [vresL] at h
   split at h
   ·rename_i v vs' hv hvs
    cases h
    obtain ⟨rvs, h1, h2, h3⟩ := resL_ok hT hI hf f f1 f2 l vs' hvs
    obtain ⟨rv, h4, h5, h6⟩ := vload_ok hT hI hv (hf.rep a) (hf.cl a)
    have h7 : (do loadVar t (← asAddr (tmps.getD a undef)) : Sem Value).run P w = .ok rv w := by
     generalize tmps.getD a undef = u at h4
     unfold Instr.loadAt at h4
     cases u with
     | pointer p =>
      cases p with
      | none => simp [Instr.sureAddr] at h4
      | some p => exact h4
     | _ => simp [Instr.sureAddr] at h4
    refine ⟨rv :: rvs, ?_, ⟨by simp [h2.1], fun i a b ha hb => ?_⟩, fun v' hv' => ?_⟩
    ·rw [List.mapM_cons]
     rw [f2, run_bind_ok h7, run_bind_ok h1]
     rfl
    ·cases i with
     | zero => cases ha; cases hb; exact h5
     | succ i => exact h2.2 i a b (by simpa using ha) (by simpa using hb)
    ·rcases List.mem_cons.1 hv' with rfl | hv'
     ·exact h6
     ·exact h3 v' hv'
   ·cases h
theorem results_ok (hT : TabOk P T) (hI : Inv G w K M) {nt : Nat} {fn : Func} {tmps : Array Value} {e : Env} {vs : List VV} (hf : FrOk w K M nt tmps e) (h : vresL T e M fn.results.toList = some vs) :
  ∃ rv, (results fn tmps).run P w = .ok rv w ∧ RepV w K M.H rv (vtup vs) ∧ Cl M.H.length (vtup vs) := by
 obtain ⟨rvs, h1, h2, h3⟩ := resL_ok hT hI hf (fun x => match x with
  | .tmp t => pure (tmps.getD t undef)
  | .cell a t => do loadVar t (← asAddr (tmps.getD a undef))) (fun _ => rfl) (fun _ _ => rfl) _ vs h
 unfold results
 rw [Array.mapM_eq_mapM_toList]
 refine ⟨if h : rvs.toArray.size = 1 then rvs.toArray[0] else .tuple rvs.toArray, ?_, ?_⟩
 ·rw [map_eq_pure_bind, bind_assoc]
  exact run_bind_ok h1
 ·match rvs, vs, h2, h3 with
  | [], [], h2, h3 => exact ⟨.tup _ _ rfl (by simp), fun r hr => by simp [vtup, refs, refsL] at hr⟩
  | [a], [b], h2, h3 => exact ⟨h2.2 0 a b rfl rfl, h3 b (by simp)⟩
  | a :: b :: l, c :: d :: l', h2, h3 =>
   rw [dif_neg (by simp)]
   exact ⟨.tup _ _ (by simpa using h2.1) fun i v x hv hx => h2.2 i v x (by simpa using hv) hx, fun r hr => by
    rw [show vtup (c :: d :: l') = .tup (c :: d :: l') from rfl, refs] at hr
    obtain ⟨x, hx, hr⟩ := mem_refsL.1 hr
    exact h3 x hx r hr⟩
  | [], _ :: _, h2, _ => exact absurd h2.1 (by simp)
  | _ :: _, [], h2, _ => exact absurd h2.1 (by simp)
  | [_], _ :: _ :: _, h2, _ => exact absurd h2.1 (by simp)
  | _ :: _ :: _, [_], h2, _ => exact absurd h2.1 (by simp)

def retQ (T : Tab) (f n0 : Nat) (fn : Func) (Q : VV → Mem → Prop) : PQ := fun ex e M D =>
 match ex with
 | .normal | .ret => match vkill n0 D M.H with
  | some H => match vresL T e { M with H := H } fn.results.toList with
   | some vs => Q (vfinish T f n0 (vtup vs) { M with H := H }).1 (vfinish T f n0 (vtup vs) { M with H := H }).2
   | none => False
  | none => False
 | _ => False

theorem Keep.refl (p : Nat → Prop) (H : List VObj) : Keep p w K H w K H := ⟨Szp.refl _, fun _ _ _ h => ⟨h, rfl⟩, fun _ _ h => ⟨fun _ h => h, h⟩, fun _ m k _ h => ⟨m, h, Nat.le_refl _, fun _ => ⟨rfl, fun _ _ => rfl⟩⟩⟩
theorem Keep.trans {p : Nat → Prop} {w w' w'' : World} {K K' K'' : Nat → Option Nat} {H H' H'' : List VObj} (h : Keep p w K H w' K' H') (hs : w.heap.size ≤ w'.heap.size) (h' : Keep p w' K' H' w'' K'' H'') : Keep p w K H w'' K'' H'' := by
 refine ⟨h.sz.trans h'.sz, fun b o hb hi => ?_, fun i hp hn => ?_, fun i m k hp hm => ?_⟩
 ·obtain ⟨a1, a2⟩ := h.mem b o hb hi
  obtain ⟨b1, b2⟩ := h'.mem b o (Nat.lt_of_lt_of_le hb hs) a1
  exact ⟨b1, b2.trans a2⟩
 ·obtain ⟨a1, a2⟩ := h.key i hp hn
  obtain ⟨b1, b2⟩ := h'.key i hp a2
  exact ⟨fun b h => b1 b (a1 b h), b2⟩
 ·obtain ⟨m1, b1, b2, b3⟩ := h'.tok i m k hp hm
  obtain ⟨m0, a1, a2, a3⟩ := h.tok i m1 k hp b1
  refine ⟨m0, a1, by omega, fun e => ?_⟩
  obtain ⟨c1, c2⟩ := b3 (by omega)
  obtain ⟨d1, d2⟩ := a3 (by omega)
  exact ⟨c1.trans d1, fun b hb => (c2 b (d1.trans hb)).trans (d2 b hb)⟩
theorem kills {fn : Func} {tmps : Array Value} {R : Ending → World → Prop} {n0 : Nat} : ∀ (ds : List Deferred) (D : List Nat) (w : World) (M : Mem) (H : List VObj), PW (fun (d : Deferred) (id : Nat) => ∃ b, K id = some b ∧ d = { target := .collected b, args := #[] }) ds D →
  Inv G w K M → vkill n0 D M.H = some H →
  (∀ w', Inv G w' K { M with H := H } → Keep (fun _ => True) w K M.H w' K H → w.heap.size ≤ w'.heap.size → M.H.length = H.length → (∀ i, i < n0 → H[i]? = M.H[i]? ∧ (M.H[i]? ≠ some .gone → ∀ b, i < M.H.length → K i = some b → w'.heap[b]? = w.heap[b]?)) → LeavesInM Fence.wide 0 P fn tmps R [] .returning w') → LeavesInM Fence.wide 0 P fn tmps R ds .returning w
 | [], [], w, M, H, _, hI, hk, hl => by
  cases hk
  exact hl w hI (Keep.refl _ _) (Nat.le_refl _) rfl fun i _ => ⟨rfl, fun _ _ _ _ => rfl⟩
 | d :: ds, id :: D, w, M, H, hp, hI, hk, hl => by
  obtain ⟨b, hb, rfl⟩ := hp.2 0 d id rfl rfl
  simp only [vkill] at hk
  cases hle : Nat.ble n0 id with
  | false => rw [hle] at hk; cases hk
  | true =>
   rw [hle] at hk
   simp only [cond_true] at hk
   split at hk
   case h_2 => cases hk
   rename_i hd
   have hle' : n0 ≤ id := by simpa [Nat.ble_eq] using hle
   obtain ⟨h1, h2, h3, h4⟩ := step_kill (P := P) hI hd hb
   refine ⟨by simp, .inl ⟨b, _, rfl, h1, ?_⟩⟩
   refine kills ds D _ { M with H := M.H.set id .dead } H ⟨by have := hp.1; simpa using this, fun i a id' ha hid => hp.2 (i + 1) a id' (by simpa using ha) (by simpa using hid)⟩ h3 hk fun w' q1 q2 q3 q4 q5 => ?_
   ·have hsz : w.heap.size ≤ ({ w with heap := w.heap.setIfInBounds b (.deferred none) } : World).heap.size := by simp
    refine hl w' q1 (h2.trans hsz q2) (Nat.le_trans hsz q3) (by simpa using q4) fun i hi => ?_
    obtain ⟨e1, e2⟩ := q5 i hi
    have hne : id ≠ i := by omega
    refine ⟨e1.trans (by simp [List.getElem?_set_ne hne]), fun hg b' hil hb' => (e2 (by simpa [List.getElem?_set_ne hne] using hg) b' (by simpa using hil) hb').trans (h4 b' fun e => ?_)⟩
    subst e
    exact hne (hI.inj id i b' (List.getElem?_eq_some_iff.1 hd).1 hil (by rw [hd]; simp) hg hb hb')
 | [], _ :: _, _, _, _, hp, _, _, _ => absurd hp.1 (by simp)
 | _ :: _, [], _, _, _, hp, _, _, _ => absurd hp.1 (by simp)

theorem zipEnv_get : ∀ (args : List VV) (i t : Nat), get (zipEnv i args) t = if i ≤ t then (args[t - i]?).getD .any else .any
 | [], i, t => by simp [zipEnv, get]
 | v :: vs, i, t => by
  rw [zipEnv, get_cons, zipEnv_get vs]
  by_cases h : t = i
  ·subst h; simp
  ·rw [if_neg h]
   by_cases h' : i ≤ t
   ·rw [if_pos h', if_pos (by omega : i + 1 ≤ t), show t - i = (t - (i + 1)) + 1 by omega, List.getElem?_cons_succ]
   ·rw [if_neg h', if_neg (by omega)]

theorem finish_ok {n0 f : Nat} {w0 : World} {K0 : Nat → Option Nat} {H0 : List VObj} {rv : Value} {r : VV} (hl : H0.length = n0) (he : Ext w0 K0 H0 w K M.H) (hI : Inv G w K M) (hr : RepV w K M.H rv r) (hc : Cl M.H.length r) :
  RepV w K (vfinish T f n0 r M).2.H rv (vfinish T f n0 r M).1 ∧ Cl (vfinish T f n0 r M).2.H.length (vfinish T f n0 r M).1 ∧ Ext w0 K0 H0 w K (vfinish T f n0 r M).2.H ∧ Inv G w K (vfinish T f n0 r M).2 := by
 have hn : n0 ≤ M.H.length := hl ▸ he.len
 unfold vfinish
 cases T.keeps f with
 | true => exact ⟨hr, hc, he, hI⟩
 | false =>
  simp only [cond_false]
  cases hb : (M.lg.filter fun e => Nat.blt e.1 n0).all (fun e => Nat.blt e.2 n0) && (refs (frz n0 M.H r)).all (Nat.blt · n0) with
  | true =>
   simp only [cond_true]
   simp only [Bool.and_eq_true, List.all_eq_true, Nat.blt_eq, List.mem_filter] at hb
   obtain ⟨h1, h2⟩ := hb
   refine ⟨frz_ok hI hn hr hr h2, fun q hq => ?_, ?_, ?_⟩
   ·have := h2 q hq
    simp only [List.length_take]
    omega
   ·refine he.keep (keep_take n0) (Nat.le_refl _) fun i hi => ⟨?_, rfl, fun _ _ _ => rfl⟩
    rw [List.getElem?_take_of_lt (by omega)]
   ·refine inv_take hI hn (fun e he1 he2 => ⟨h1 e ⟨he1, he2⟩, ?_⟩) fun e he1 => ?_
    ·simp only [List.mem_filter, Nat.blt_eq]
     exact ⟨he1, he2⟩
    ·simp only [List.mem_filter, Nat.blt_eq] at he1
     exact ⟨he1.2, h1 e he1⟩
  | false => exact ⟨hr, hc, he, hI⟩

theorem VC_fn (hT : TabOk P T) {f : Nat} {fn : Func} {c : Code} {args : List VV} {Q : VV → Mem → Prop} (hf : T.fn f = some fn) (hb : fn.body = some c) (hn : args.length ≤ fn.ntmps)
  (h : (∀ e ∈ M.lg, e.1 < M.H.length ∧ e.2 < M.H.length) → WCode P ⟨f, none, fn.ntmps⟩ c (zipEnv 0 args) M [] (retQ T f M.H.length fn Q)) : VC P f args M Q := by
 intro G w K rargs hI ha
 refine callsIn_of_wp_marks (hT.fn f fn hf).1 hb trivial ?_ rfl
 have hsz : rargs.size = args.length := by simpa using ha.rep.1
 have hs : StOk ⟨f, none, fn.ntmps⟩ G w K M { tmps := rargs ++ Array.replicate (fn.ntmps - rargs.size) undef, defers := [] } (zipEnv 0 args) [] := by
  refine ⟨⟨by simp; omega, fun t => ?_, fun t => ?_⟩, ⟨rfl, fun i a b ha => by simp at ha⟩, hI, fun id hid => by cases hid⟩
  ·rw [zipEnv_get, if_pos (Nat.zero_le _)]
   simp only [Nat.sub_zero]
   rcases Nat.lt_or_ge t args.length with hlt | hge
   ·have e1 : args[t]? = some args[t] := List.getElem?_eq_getElem hlt
    have e2 : rargs[t]? = some (rargs[t]'(by omega)) := Array.getElem?_eq_getElem (by omega)
    rw [e1, Array.getD_eq_getD_getElem?, Array.getElem?_append_left (by omega), e2]
    exact ha.rep.2 t _ _ (by rw [Array.getElem?_toList]; exact e2) e1
   ·rw [List.getElem?_eq_none hge]
    exact .any _
  ·rw [zipEnv_get, if_pos (Nat.zero_le _)]
   simp only [Nat.sub_zero]
   rcases Nat.lt_or_ge t args.length with hlt | hge
   ·rw [List.getElem?_eq_getElem hlt]
    exact ha.cl _ (List.getElem_mem _)
   ·rw [List.getElem?_eq_none hge]
    exact cl_any _
 refine wpIn_mono (h hI.lg G w K _ hs) ?_
 rintro ex a' w' ⟨e', M', K', D', h1, h2, h3, h4⟩
 have main : ∀ {H : List VObj} {vs : List VV}, vkill M.H.length D' M'.H = some H → vresL T e' { M' with H := H } fn.results.toList = some vs →
   Q (vfinish T f M.H.length (vtup vs) { M' with H := H }).1 (vfinish T f M.H.length (vtup vs) { M' with H := H }).2 → LeavesInM Fence.wide 0 P fn a'.tmps (Post G w K M Q) a'.defers .returning w' := by
  intro H vs hk hv hq
  refine kills a'.defers D' w' M' H ⟨h3.df.1, fun i d id hd hid => by obtain ⟨b, e1, e2, _⟩ := h3.df.2 i d id hd hid; exact ⟨b, e1, e2⟩⟩ h3.inv hk fun w2 q1 q2 q3 q4 q5 => ?_
  have hf2 : FrOk w2 K' { M' with H := H } fn.ntmps a'.tmps e' := ⟨h3.fr.size, fun t => (h3.fr.rep t).keep q2 fun _ _ => trivial, fun t => (h3.fr.cl t).mono (Nat.le_of_eq q4)⟩
  obtain ⟨rv, r1, r2, r3⟩ := results_ok hT q1 hf2 hv
  have he2 : Ext w K M.H w2 K' H := h4.keep q2 q3 fun i hi => ⟨(q5 i hi).1, rfl, fun hg b hb => (q5 i hi).2 hg b (Nat.lt_of_lt_of_le hi h4.len) hb⟩
  obtain ⟨f1, f2, f3, f4⟩ := finish_ok (T := T) (f := f) (M := { M' with H := H }) rfl he2 q1 r2 r3
  exact ⟨rv, r1, rv, _, K', _, rfl, hq, f1, f2, f3, f4⟩
 have main2 : retQ T f M.H.length fn Q .ret e' M' D' → LeavesInM Fence.wide 0 P fn a'.tmps (Post G w K M Q) a'.defers .returning w' := by
  intro h1
  simp only [retQ] at h1
  split at h1
  ·rename_i H hk
   split at h1
   ·rename_i vs hv
    exact main hk hv h1
   ·cases h1
  ·cases h1
 cases ex with
 | normal => exact main2 h1
 | ret => exact main2 h1
 | exit id => exact h1.elim
 | _ => exact h2.elim
end
end Go.Proofs.YtnjgdlmddlinaaaDoor.Vm

/- A machine on values: ranges over functions, and their rounds. -/
namespace Go.Proofs.YtnjgdlmddlinaaaDoor.Vm
open Go

def LoopV.with (L : LoopV) (st : LoopState) (pd : Option Code) : LoopV := { L with st := st, pend := pd }
def Mem.loop (M : Mem) (id : Nat) (L : LoopV) : Mem := { M with H := M.H.set id (.lp L) }

def lw (w : World) (b : Nat) (R : Loop) (st : LoopState) (pd : Option Code) : World := { w with heap := w.heap.setIfInBounds b (.loop { R with state := st, pending := pd }) }
theorem endLoop_run {P : Program} {w : World} {b : Nat} {R : Loop} (h : w.heap[b]? = some (.loop R)) (hb : (R.state == LoopState.busy) = false) : (Instr.endLoop b).run P w = .ok R.pending (lw w b R .exhausted R.pending) := by
 have hb' : R.state ≠ .busy := by intro e; rw [e] at hb; exact absurd hb (by decide)
 simp [Instr.endLoop, Instr.getLoop, getObj, setObj, Sem.run, h, hb']
 rfl
theorem beginRound_run {P : Program} {w : World} {b : Nat} {R : Loop} (h : w.heap[b]? = some (.loop R)) (hb : R.state = .ready) : (Instr.beginRound b).run P w = .ok () (lw w b R .busy R.pending) := by
 simp [Instr.beginRound, Instr.getLoop, getObj, setObj, Sem.run, h, hb]
 rfl
theorem endRound_run {P : Program} {w : World} {b : Nat} {R : Loop} (pd : Option Code) (h : w.heap[b]? = some (.loop R)) : (Instr.endRound b pd).run P w = .ok (.bool pd.isNone) (lw w b R (if pd.isNone then .ready else .done) pd) := by
 simp [Instr.endRound, Instr.getLoop, getObj, setObj, Sem.run, h]
 rfl
section
variable {P : Program} {T : Tab} {G : Ghost} {w : World} {K : Nat → Option Nat} {M : Mem}

theorem step_loop (hI : Inv G w K M) {id b : Nat} {L : LoopV} (hi : M.H[id]? = some (.lp L)) (hb : K id = some b) : ∃ R : Loop, w.heap[b]? = some (.loop R) ∧ R.state = L.st ∧ R.pending = L.pend ∧ R.params.toList = L.params ∧ R.assign = L.assign ∧ R.body = L.body ∧ R.tmps.size = L.nt ∧
  (∀ t, RepV w K M.H (R.tmps.getD t undef) (get L.tm t)) ∧ K L.dfr = some R.defers ∧
  ∀ st pd, Ext w K M.H (lw w b R st pd) K (M.loop id (L.with st pd)).H ∧
   Inv G (lw w b R st pd) K (M.loop id (L.with st pd)) := by
 obtain ⟨b', R, d, e, hh, a1, a2, a3, a4, a5, a6, a7, a8, a9, a10, a11, h3⟩ := hI.obj id _ hi
 rw [hb] at e
 cases e
 subst a10
 refine ⟨R, hh, a1, a2, a4, a5, a6, a11, h3, a7, fun st pd => ?_⟩
 have hset := MapKept.heap_set (o' := .loop { R with state := st, pending := pd }) hh
 refine step_set (w' := lw w b R st pd) hI ⟨rfl, rfl, rfl, by simp [lw]⟩ hi hb (fun _ _ e => by cases e) (fun e => e) (fun e => by cases e) (fun _ _ => ⟨_, rfl⟩) (fun _ _ e => by cases e) (fun b1 _ hne => hset.2 b1 hne) (fun v1 t1 z1 e1 => (by rw [hh] at e1; cases e1)) M.lg
  (fun c hc r hr => hI.cl id _ hi c hc r hr) (fun _ h => h) hI.lg (fun hE => ?_) fun L' e => by cases e; exact hI.lpd id L hi
 have hn8 : ∀ m k, (M.H.set id (.lp (L.with st pd)))[L.dfr]? ≠ some (.clm m k) := fun m k => hE.notClm a9 a8 m k
 exact ⟨b, _, _, rfl, hset.1, rfl, rfl, trivial, a4, a5, a6, a7, hn8, by simpa [LoopV.with] using a9, rfl, a11, fun t => (h3 t).ext hE (cl_get (fun c hc => hI.content hi c hc) t)⟩

theorem enter_fn (hT : TabOk P T) {f : Nat} {fn : Func} {first caps args : List VV} {Q : VV → Mem → Prop} {rf : Value} {rargs : Array Value} (hf : T.fn f = some fn) (h : VC P f ((first ++ args ++ caps).map (sarg T f)) M Q)
  (hI : Inv G w K M) (hrf : RepV w K M.H rf (.fn (.func f) first caps)) (hcf : Cl M.H.length (.fn (.func f) first caps)) (ha : ArgsOk w K M rargs args) :
  ∃ d fargs, (Deferred.ofValue rf rargs : Sem Deferred).run P w = .ok d w ∧ (invoke d.target d.args).run P w = .ok (.enter f fargs) w ∧ CallsIn Fence.wide 0 P f fargs w (Post G w K M Q) := by
 obtain ⟨hfn, hname, hbody⟩ := hT.fn f fn hf
 cases hrf with
 | fn _ us vs _ _ h1 h2 h3 h4 =>
  have hname' : fn.name ≠ "runtime.NumGoroutine" := by simpa using hname
  have hbody' : fn.body ≠ none := by intro h; simp [h] at hbody
  refine ⟨_, us ++ rargs ++ vs, by simp [Deferred.ofValue]; rfl, by simp [invoke, callFunc, program, Sem.run, hfn, hname', hbody'], ?_⟩
  refine h G w K _ hI ⟨?_, fun a hh => ?_⟩
  ·have p : PW (RepV w K M.H) (us ++ rargs ++ vs).toList (first ++ args ++ caps) := by
    simp only [Array.toList_append]
    exact ((PW.of_arr h1 h3).append ha.rep).append (PW.of_arr h2 h4)
   refine ⟨by simpa using p.1, fun i a b hx hy => ?_⟩
   rw [List.getElem?_map] at hy
   obtain ⟨c, hc, rfl⟩ := Option.map_eq_some_iff.1 hy
   exact sarg_ok (p.2 i a c hx hc)
  ·obtain ⟨c, hc, rfl⟩ := List.mem_map.1 hh
   refine sarg_cl ?_
   rcases List.mem_append.1 hc with hc | hc
   ·rcases List.mem_append.1 hc with hc | hc
    ·exact fun r hr => hcf r (by simp only [refs, List.mem_append]; exact .inl (mem_refsL.2 ⟨c, hc, hr⟩))
    ·exact ha.cl c hc
   ·exact fun r hr => hcf r (by simp only [refs, List.mem_append]; exact .inr (mem_refsL.2 ⟨c, hc, hr⟩))

theorem prune_get_all {e : Env} {vs : List Nat} {n : Nat} (h : ∀ t, Cl n (get e t)) : ∀ c ∈ (prune vs e).map (·.2), Cl n c := by
 intro c hc
 simp only [prune, List.map_map, List.mem_map] at hc
 obtain ⟨t, _, rfl⟩ := hc
 exact h t
def mkLoop (T : Tab) (cx : Cx) (e : Env) (ps : Array Tmp) (assign body : Code) (dfr : Nat) : LoopV :=
 { fid := cx.fid, round := none, dfr := dfr, nt := cx.nt, tm := prune (T.vars cx.fid) e, params := ps.toList, assign := assign, body := body, st := .ready, pend := none }
def rangeQ (P : Program) (cx : Cx) (e : Env) (id : Nat) (D : List Nat) (Q : PQ) : VV → Mem → Prop := fun _ M => ∃ L, M.H[id]? = some (.lp L) ∧ (L.st == .busy) = false ∧
 match L.pend with
 | none => Q .normal e (M.loop id (L.with .exhausted L.pend)) D
 | some c => WCode P cx c e (M.loop id (L.with .exhausted L.pend)) D Q

theorem new_loop (hI : Inv G w K M) {cx : Cx} {a : Act} {e : Env} (hf : FrOk w K M cx.nt a.tmps e) (fn : FuncId) (ps : Array Tmp) (assign body : Code) {dfr d : Nat} (hd : K dfr = some d) (hdl : dfr < M.H.length) (hdn : ∀ m k, M.H[dfr]? ≠ some (.clm m k)) :
  ∀ w' : World, w' = { w with heap := w.heap.push (.loop { state := .ready, pending := none, fn, tmps := a.tmps, params := ps, assign, body, defers := d }) } →
  Ext w K M.H w' (upd K M.H.length (some w.heap.size)) (M.push (.lp (mkLoop T cx e ps assign body dfr))).H ∧ Inv G w' (upd K M.H.length (some w.heap.size)) (M.push (.lp (mkLoop T cx e ps assign body dfr))) := by
 intro w' hw'
 have hcl : ∀ c ∈ contents (.lp (mkLoop T cx e ps assign body dfr)), Cl M.H.length c := prune_get_all hf.cl
 refine step_new (w' := w') hI ⟨by rw [hw'], by rw [hw'], by rw [hw'], by simp [hw']⟩ (fun b hb => by rw [hw']; show (w.heap.push _)[b]? = _; rw [Array.getElem?_push_lt hb]; simp [hb]) _ (some w.heap.size) (fun b e => by cases e; simp [hw']) (fun c hc => (hcl c hc).mono (Nat.le_succ _)) (fun hE => ?_) fun L e => by cases e; exact hdl
 refine ⟨w.heap.size, _, d, rfl, by rw [hw']; simp; rfl, rfl, rfl, trivial, rfl, rfl, rfl, ?_, fun m k => ?_, (by rw [List.length_append]; exact Nat.lt_add_right _ hdl), rfl, hf.size, fun t => ?_⟩
 ·simp only [mkLoop]
  rw [upd_ne _ _ (by omega)]
  exact hd
 ·exact hE.notClm hdl hdn m k
 ·rcases get_prune (T.vars cx.fid) e t with h | h
  ·simp only [mkLoop]
   rw [h]
   exact (hf.rep t).ext hE (hf.cl t)
  ·simp only [mkLoop]
   rw [h]
   exact .any _

theorem range_aux (hT : TabOk P T) {cx : Cx} {e : Env} {D : List Nat} {Q : PQ} {g : Operand} {f : Nat} {fn : Func} {first caps : List VV} {w0 : World} {K0 : Nat → Option Nat} {M0 : Mem} {a : Act} {id b : Nat}
  (hrd : cx.rd.bind K = cx.rd.bind K0) (hg : ev e g = .fn (.func f) first caps) (hf : T.fn f = some fn) (hs : StOk cx G w K M a e D) (hE0 : Ext w0 K0 M0.H w K M.H) {L : LoopV} (hid : M.H[id]? = some (.lp L)) (hK : K id = some b)
  (h : VC P f ((first ++ [VV.yl id] ++ caps).map (sarg T f)) M (rangeQ P cx e id D Q)) :
  ∃ (d : Deferred) (args : Array Value), (resolve a.eval (rangeCall g b) 0).run P w = .ok d w ∧ (invoke d.target d.args).run P w = .ok (.enter f args) w ∧ CallsIn Fence.wide 0 P f args w (rangePost (fence (cx.rd.bind K0)) 0 P b (WPost cx G w0 K0 M0 Q) a) := by
 have hgo := hs.fr.ev g
 rw [hg] at hgo
 have ha : ArgsOk w K M #[.func (.yield b) #[] #[]] [VV.yl id] := by
  refine ⟨⟨rfl, fun i x y hx hy => ?_⟩, fun x hx => ?_⟩
  ·cases i with
   | zero =>
    cases hx
    cases hy
    exact .yl id b hK fun m k e => by rw [hid] at e; cases e
   | succ i => simp at hx
  ·rw [List.mem_singleton] at hx
   subst hx
   intro r hr
   simp [refs] at hr
   subst hr
   exact (List.getElem?_eq_some_iff.1 hid).1
 obtain ⟨d, fargs, h1, h2, h3⟩ := enter_fn hT hf h hs.inv hgo.1 hgo.2 ha
 refine ⟨d, fargs, ?_, h2, h3.mono ?_⟩
 ·simpa [resolve, rangeCall, show a.eval (Operand.const (Value.func (Fn.yield b) #[] #[])) = Value.func (Fn.yield b) #[] #[] from rfl] using h1
 ·rintro e' w' ⟨rv, r, K', M', rfl, hq, q1, q2, q3, q4⟩
  obtain ⟨L', hL', hbusy, hq⟩ := hq
  have hb' : K' id = some b := (q3.lp hid).2.trans hK
  obtain ⟨R, r1, r2, r3, r4, r5, r6, r7, r8, r9, r10⟩ := step_loop q4 hL' hb'
  obtain ⟨e1, e2⟩ := r10 .exhausted R.pending
  have hst : (R.state == LoopState.busy) = false := by rw [r2]; exact hbusy
  refine ⟨R.pending, _, endLoop_run r1 hst, ?_⟩
  ·rw [r3] at e1 e2 ⊢
   have hE2 := q3.trans e1
   have hs2 : StOk cx G (lw w' b R .exhausted L'.pend) K' (M'.loop id (L'.with .exhausted L'.pend)) a e D :=
    ⟨hs.fr.ext hE2, df_ext hE2 hs.df, e2, (rd_ext hE2 hs.rd).1⟩
   cases hp : L'.pend with
   | none =>
    rw [hp] at hq hs2 hE2
    exact ⟨e, _, K', D, hq, trivial, hs2, hE0.trans hE2⟩
   | some c =>
    rw [hp] at hq hs2 hE2
    have := hq G _ K' a hs2
    rw [(rd_ext hE2 hs.rd).2, hrd] at this
    exact wpIn_mono this fun ex a2 w2 ⟨e2, M2, K2, D2, x1, x2, x3, x4⟩ => ⟨e2, M2, K2, D2, x1, x2, x3, (hE0.trans hE2).trans x4⟩
end
end Go.Proofs.YtnjgdlmddlinaaaDoor.Vm

/- A machine on values: the rule of ranges over functions, and of yield. -/
namespace Go.Proofs.YtnjgdlmddlinaaaDoor.Vm
open Go

def nw (w : World) (o : Obj) : World := { w with heap := w.heap.push o }
theorem newObj_run {P : Program} {w : World} (o : Obj) : (newObj o).run P w = .ok w.heap.size (nw w o) := rfl
theorem nw_size (w : World) (o : Obj) : (nw w o).heap.size = w.heap.size + 1 := by
 show (w.heap.push o).size = _
 simp
section
variable {P : Program} {T : Tab} {cx : Cx} {e : Env} {M : Mem} {D : List Nat} {Q : PQ}

theorem W_range (hT : TabOk P T) {g : Operand} {ps : Array Tmp} {assign body : Code} {f : Nat} {fn : Func} {first caps : List VV} (hrd : cx.rd = none) (hg : ev e g = .fn (.func f) first caps) (hf : T.fn f = some fn)
  (h : VC P f ((first ++ [VV.yl (M.H.length + 1)] ++ caps).map (sarg T f)) ((M.push .dfr).push (.lp (mkLoop T cx e ps assign body M.H.length))) (rangeQ P cx e (M.H.length + 1) (M.H.length :: D) Q)) :
  WCode P cx (.rangeFunc g ps assign body) e M D Q := by
 intro G w K a hs
 refine wpIn_rangeFunc fun fn' _ => ?_
 obtain ⟨e1, i1⟩ := step_new (w' := nw w (.deferred (some []))) hs.inv ⟨rfl, rfl, rfl, by rw [nw_size]; omega⟩ (fun b hb => by show (w.heap.push _)[b]? = _; rw [Array.getElem?_push_lt hb]; simp [hb]) .dfr (some w.heap.size) (fun b e => by cases e; rw [nw_size]; omega)
  (fun c hc => by simp [contents] at hc) (fun hE => ⟨w.heap.size, rfl, by show (w.heap.push _)[w.heap.size]? = _; simp⟩)
 have hf1 := hs.fr.ext (M' := M.push .dfr) e1
 have hd1 : (M.push .dfr).H[M.H.length]? = some .dfr := by simp [Mem.push]
 have hl1 : (M.push .dfr).H.length = M.H.length + 1 := by simp [Mem.push]
 obtain ⟨w2, hw2⟩ : ∃ w2 : World, w2 = { nw w (.deferred (some [])) with heap := (nw w (.deferred (some []))).heap.push (.loop { state := .ready, pending := none, fn := fn', tmps := a.tmps, params := ps, assign, body, defers := w.heap.size }) } := ⟨_, rfl⟩
 obtain ⟨e2, i2⟩ := new_loop (T := T) i1 hf1 fn' ps assign body (dfr := M.H.length) (d := w.heap.size) (upd_same _ _ _) (by omega) (fun m k e => by rw [hd1] at e; cases e) _ hw2
 have he := e1.trans e2
 have henter : (Instr.enterLoop fn' a.tmps ps assign body (fence (cx.rd.bind K)).round).run P w = .ok ((nw w (.deferred (some []))).heap.size, [{ target := .collected w.heap.size, args := #[] }]) w2 := by
  rw [hrd]
  simp only [Instr.enterLoop, fence, Option.bind_none, bind_assoc, pure_bind]
  rw [run_bind_ok (newObj_run _), run_bind_ok (newObj_run _), hw2]
  rfl
 have hid : ((M.push .dfr).push (.lp (mkLoop T cx e ps assign body M.H.length))).H[M.H.length + 1]? = some (.lp (mkLoop T cx e ps assign body M.H.length)) := by
  rw [← hl1]; simp [Mem.push]
 have hK2 : upd (upd K M.H.length (some w.heap.size)) (M.push VObj.dfr).H.length (some (nw w (.deferred (some []))).heap.size) (M.H.length + 1) = some (nw w (.deferred (some []))).heap.size := by
  rw [hl1]; exact upd_same _ _ _
 have hs2 : StOk cx G w2 (upd (upd K M.H.length (some w.heap.size)) (M.push VObj.dfr).H.length (some (nw w (.deferred (some []))).heap.size)) ((M.push .dfr).push (.lp (mkLoop T cx e ps assign body M.H.length))) { a with defers := [{ target := .collected w.heap.size, args := #[] }] ++ a.defers } e (M.H.length :: D) := by
  refine ⟨hs.fr.ext he, ?_, i2, fun id hid => by rw [hrd] at hid; cases hid⟩
  have hdf := df_ext he hs.df
  refine ⟨by simpa using hdf.1, fun i x id hx hid => ?_⟩
  cases i with
  | zero =>
   cases hx
   cases hid
   obtain ⟨q1, q2⟩ := e2.dfr hd1
   exact ⟨w.heap.size, q2.trans (upd_same _ _ _), rfl, q1⟩
  | succ i => exact hdf.2 i x id (by simpa using hx) (by simpa using hid)
 obtain ⟨d, args, h1, h2, h3⟩ := range_aux (K0 := K) (w0 := w) (M0 := M) hT (by rw [hrd]; rfl) hg hf hs2 he hid hK2 h
 exact ⟨(nw w (.deferred (some []))).heap.size, [{ target := .collected w.heap.size, args := #[] }], w2, d, w2, f, args, w2, henter, h1, fun _ _ => trivial, h2, by simp [fence, Fence.wide], h3⟩

end
end Go.Proofs.YtnjgdlmddlinaaaDoor.Vm

/- A machine on values: yield. -/
namespace Go.Proofs.YtnjgdlmddlinaaaDoor.Vm
open Go

def vputs (nt : Nat) : List Nat → List VV → Env → Option Env
 | [], [], e => some e
 | p :: ps, v :: vs, e => bif Nat.blt p nt then vputs nt ps vs ((p, v) :: e) else none
 | _, _, _ => none
def endQ (id : Nat) (Q : VV → Mem → Prop) : PQ := fun ex _ M _ => ∃ L, M.H[id]? = some (.lp L) ∧
 match ex with
 | .normal => Q (.p (.bool true)) (M.loop id (L.with .ready none))
 | .ret => Q (.p (.bool false)) (M.loop id (L.with .done (some .ret)))
 | .exit j => Q (.p (.bool false)) (M.loop id (L.with .done (some (.exit j))))
 | _ => False
def roundQ (P : Program) (cx : Cx) (id : Nat) (body : Code) (Q : VV → Mem → Prop) : PQ := fun ex e M D => ∃ L, M.H[id]? = some (.lp L) ∧ L.st = .ready ∧
 match ex with
 | .normal => WCode P cx body e (M.loop id (L.with .busy L.pend)) D (endQ id Q)
 | _ => False

section
variable {P : Program} {T : Tab} {G : Ghost} {w : World} {K : Nat → Option Nat} {M : Mem}
theorem vputs_ok {nt : Nat} : ∀ {ps : List Nat} {rvs : List Value} {vs : List VV} {e e' : Env} {tmps : Array Value}, FrOk w K M nt tmps e → PW (RepV w K M.H) rvs vs → (∀ v ∈ vs, Cl M.H.length v) → vputs nt ps vs e = some e' →
  ps.length = rvs.length ∧ FrOk w K M nt ((ps.zip rvs).foldl (fun tmps (p : Nat × Value) => tmps.setIfInBounds p.1 p.2) tmps) e'
 | [], [], [], e, e', tmps, hf, _, _, h => by cases h; exact ⟨rfl, hf⟩
 | p :: ps, rv :: rvs, v :: vs, e, e', tmps, hf, hp, hc, h => by
  simp only [vputs] at h
  cases hb : Nat.blt p nt with
  | false => rw [hb] at h; cases h
  | true =>
   rw [hb] at h
   obtain ⟨h1, h2⟩ := vputs_ok (hf.put (by simpa [Nat.blt_eq] using hb) (hp.2 0 rv v rfl rfl) (hc v (by simp))) ⟨by simpa using hp.1, fun i a b ha hb => hp.2 (i + 1) a b (by simpa using ha) (by simpa using hb)⟩ (fun x hx => hc x (by simp [hx])) h
   exact ⟨by simp [h1], by simpa using h2⟩
 | [], [], _ :: _, _, _, _, _, hp, _, _ => absurd hp.1 (by simp)
 | [], _ :: _, [], _, _, _, _, hp, _, _ => absurd hp.1 (by simp)
 | [], _ :: _, _ :: _, _, _, _, _, _, _, h => by simp [vputs] at h
 | _ :: _, [], [], _, _, _, _, _, _, h => by simp [vputs] at h
 | _ :: _, [], _ :: _, _, _, _, _, hp, _, _ => absurd hp.1 (by simp)
 | _ :: _, _ :: _, [], _, _, _, _, _, _, h => by simp [vputs] at h

theorem V_yield {id : Nat} {args : List VV} {Q : VV → Mem → Prop} {L : LoopV} {e0 : Env} (hL : M.H[id]? = some (.lp L)) (he : vputs L.nt L.params args L.tm = some e0)
  (h : WCode P ⟨L.fid, some id, L.nt⟩ L.assign e0 M [] (roundQ P ⟨L.fid, some id, L.nt⟩ id L.body Q)) : VCall P (.yl id) args M Q := by
 intro G w K rf rargs hI hrf hcf ha
 cases hrf with
 | yl _ b hb _ =>
  obtain ⟨R, r1, r2, r3, r4, r5, r6, r7, r8, r9, r10⟩ := step_loop hI hL hb
  have hfr : FrOk w K M L.nt R.tmps L.tm := ⟨r7, r8, fun t => cl_get (fun c hc => hI.content hL c hc) t⟩
  obtain ⟨hsz, hf0⟩ := vputs_ok hfr ha.rep ha.cl he
  have hsz' : rargs.size = R.params.size := by rw [← r4] at hsz; simpa using hsz.symm
  have htm : (R.params.zip rargs).foldl (fun tmps (x : Nat × Value) => tmps.setIfInBounds x.1 x.2) R.tmps = (L.params.zip rargs.toList).foldl (fun tmps (p : Nat × Value) => tmps.setIfInBounds p.1 p.2) R.tmps := by
   rw [← r4, ← Array.foldl_toList, Array.toList_zip]
  refine ⟨.round b R.fn ((R.params.zip rargs).foldl (fun tmps (x : Nat × Value) => tmps.setIfInBounds x.1 x.2) R.tmps) R.assign R.body, ?_, ?_⟩
  ·simp [Deferred.ofValue, invoke, Instr.yield, Instr.getLoop, getObj, Sem.run, r1, hsz']
  ·have hs : StOk ⟨L.fid, some id, L.nt⟩ G w K M { tmps := (R.params.zip rargs).foldl (fun tmps (x : Nat × Value) => tmps.setIfInBounds x.1 x.2) R.tmps, defers := [] } e0 [] :=
    ⟨by rw [htm]; exact hf0, ⟨rfl, fun i a b ha => by simp at ha⟩, hI, fun id' e => by cases e; exact ⟨L, hL⟩⟩
   have h1 := h G w K _ hs
   rw [show (some id).bind K = some b from hb] at h1
   rw [r5, r6]
   refine roundIn_of_wpIn trivial (wpIn_mono h1 ?_)
   rintro ex a' w' ⟨e', M', K', D', q1, q2, q3, q4⟩
   obtain ⟨L1, hL1, hst, q1⟩ := q1
   have hb1 : K' id = some b := (q4.lp hL).2.trans hb
   obtain ⟨R1, s1, s2, s3, s4, s5, s6, s7, s8, s9, s10⟩ := step_loop q3.inv hL1 hb1
   cases ex with
   | normal =>
    refine ⟨_, beginRound_run s1 (s2.trans hst), ?_⟩
    obtain ⟨x1, x2⟩ := s10 .busy R1.pending
    rw [s3] at x1 x2 ⊢
    have hs2 : StOk ⟨L.fid, some id, L.nt⟩ G (lw w' b R1 .busy L1.pend) K' (M'.loop id (L1.with .busy L1.pend)) a' e' D' := ⟨q3.fr.ext x1, df_ext x1 q3.df, x2, (rd_ext x1 q3.rd).1⟩
    have h2 := q1 G _ K' a' hs2
    rw [show (some id).bind K' = some b from hb1] at h2
    refine wpIn_mono h2 ?_
    rintro ex2 a2 w2 ⟨e2, M2, K2, D2, y1, y2, y3, y4⟩
    obtain ⟨L2, hL2, y1⟩ := y1
    have hb2 : K2 id = some b := (y4.lp (show (M'.loop id (L1.with .busy L1.pend)).H[id]? = some (.lp (L1.with .busy L1.pend)) by simp [Mem.loop, (List.getElem?_eq_some_iff.1 hL1).1])).2.trans hb1
    obtain ⟨R2, t1, _, _, _, _, _, _, _, _, t10⟩ := step_loop y3.inv hL2 hb2
    have hrep : ∀ (x : Bool) (H : List VObj) (w3 : World), RepV w3 K2 H (.bool x) (.p (.bool x)) := fun x H w3 => .p _ _ (.bool x)
    have fin : ∀ (st : LoopState) (pd : Option Code), (if pd.isNone then LoopState.ready else LoopState.done) = st → ∀ (x : Bool), pd.isNone = x → Q (.p (.bool x)) (M2.loop id (L2.with st pd)) →
      ∃ v w', (Instr.endRound b pd).run P w2 = .ok v w' ∧ Post G w K M Q (.returned v) w' := by
     intro st pd hst2 x hx hq
     refine ⟨.bool pd.isNone, _, endRound_run pd t1, ?_⟩
     rw [hst2, hx]
     obtain ⟨z1, z2⟩ := t10 st pd
     exact ⟨.bool x, _, K2, _, rfl, hq, hrep _ _ _, fun r hr => by simp [refs] at hr, (q4.trans x1).trans (y4.trans z1), z2⟩
    cases ex2 with
    | normal => exact fin .ready none rfl true rfl y1
    | ret => exact fin .done (some .ret) rfl false rfl y1
    | exit j => exact fin .done (some (.exit j)) rfl false rfl y1
    | _ => exact y2.elim
   | ret => exact q1.elim
   | exit j => exact q1.elim
   | _ => exact q2.elim
end
end Go.Proofs.YtnjgdlmddlinaaaDoor.Vm
