/- A part of the proofs about the chapter of the doors; it states no condition of its own. -/
import Derived.Test.YtmagiabapakhcaaB14
set_option linter.unusedVariables false
set_option linter.unusedSimpArgs false
/- A machine on values: functions, and what is left of their memory. -/
namespace Go.Proofs.Ytmagiabapakhcaa.Vm
open Go

/-- what is known of values whose references have p stays -/
structure Keep (p : Nat → Prop) (w : World) (K : Nat → Option Nat) (H : List VObj) (w' : World) (K' : Nat → Option Nat) (H' : List VObj) : Prop where
  sz : Szp w w'
  mem : ∀ b o, b < w.heap.size → Im K H b o → Im K' H' b o ∧ w'.cell? ⟨b, o, none⟩ = w.cell? ⟨b, o, none⟩
  key : ∀ i, p i → (∀ m k, H[i]? ≠ some (.clm m k)) → (∀ b, K i = some b → K' i = some b) ∧ ∀ m k, H'[i]? ≠ some (.clm m k)
  tok : ∀ i m k, p i → H'[i]? = some (.clm m k) → ∃ m0, H[i]? = some (.clm m0 k) ∧ m0 ≤ m ∧ (m = m0 → K' i = K i ∧ ∀ b, K i = some b → w'.heap[b]? = w.heap[b]?)
section
variable {P : Program} {p : Nat → Prop} {w w' : World} {K K' : Nat → Option Nat} {H H' : List VObj} {M M' : Mem} {G : Ghost}
theorem RepV.keep {v : Value} {x : VV} (h : RepV w K H v x) (he : Keep p w K H w' K' H') (hc : ∀ r ∈ refs x, p r) : RepV w' K' H' v x := by
  have hP : ∀ {v : Value} {x : PV}, RepP w (Im K H) v x → RepP w' (Im K' H') v x := fun h => h.ext fun b o hb hi => he.mem b o hb hi
  induction h with
  | p v x h => exact .p v x (hP h)
  | any v => exact .any v
  | agg vs cs hs h1 h ih => exact .agg vs cs hs h1 fun i v c a b => ih i v c a b fun r hr => hc r (by rw [refs]; exact refsL_get b hr)
  | tup vs cs hs h ih => exact .tup vs cs hs fun i v c a b => ih i v c a b fun r hr => hc r (by rw [refs]; exact refsL_get b hr)
  | so v id k xs h ht =>
    refine .so v id k xs (hP h) fun m k' hm => ?_
    obtain ⟨m0, h0, hle, hk⟩ := he.tok id m k' (hc id (by simp [refs])) hm
    obtain ⟨h1, h2⟩ := ht m0 k' h0
    refine ⟨by omega, fun e => ?_⟩
    have e0 : m = m0 := by omega
    obtain ⟨e1, e2⟩ := hk e0
    obtain ⟨rfl, h3⟩ := h2 (by omega)
    refine ⟨rfl, ?_⟩
    rcases h3 with ⟨b, c, vs, t, hb, hv, hw, hcc⟩ | ⟨hb, hv⟩
    · exact .inl ⟨b, c, vs, t, e1.trans hb, hv, (e2 b hb).trans hw, hcc⟩
    · exact .inr ⟨e1.trans hb, hv⟩
  | sf A k xs h => exact .sf A k xs (hP h)
  | ptr id off b h hn =>
    obtain ⟨h1, h2⟩ := he.key id (hc id (by simp [refs])) hn
    exact .ptr id off b (h1 b h) h2
  | ip cs b off f hi hw hr =>
    exact .ip cs b off f (fun j u a => (he.mem _ _ (cell_lt (hw j u a)) (hi j u a)).1) (fun j u a => (he.mem _ _ (cell_lt (hw j u a)) (hi j u a)).2.trans (hw j u a)) fun j u a => hP (hr j u a)
  | iv cs b off f hi hw hr h1 ih =>
    exact .iv cs b off f (fun j u a => (he.mem _ _ (cell_lt (hw j u a)) (hi j u a)).1) (fun j u a => (he.mem _ _ (cell_lt (hw j u a)) (hi j u a)).2.trans (hw j u a))
      (fun j u a => ih j u a fun r hr => hc r (by rw [refs]; exact refsL_get a hr)) h1
  | bf id off n k b c A h hn h2 hm hA hz =>
    obtain ⟨h3, h4⟩ := he.key id (hc id (by simp [refs])) hn
    exact .bf id off n k b c A (fun hne => h3 b (h hne)) h4 h2 hm hA fun hne => (hz hne).sz he.sz
  | mp id b h hn =>
    obtain ⟨h3, h4⟩ := he.key id (hc id (by simp [refs])) hn
    exact .mp id b (h3 b h) h4
  | fn f us vs as bs hs ht h h' ih ih' =>
    exact .fn f us vs as bs hs ht (fun i v c a b => ih i v c a b fun r hr => hc r (by rw [refs, List.mem_append]; exact .inl (refsL_get b hr)))
      fun i v c a b => ih' i v c a b fun r hr => hc r (by rw [refs, List.mem_append]; exact .inr (refsL_get b hr))
  | sv A c k b off xs f hcc hm hk hA hi hw hr h1 ih =>
    exact .sv A c k b off xs f hcc hm hk hA (fun i x j u h1 h2 => (he.mem _ _ (cell_lt (hw i x j u h1 h2)) (hi i x j u h1 h2)).1)
      (fun i x j u h1 h2 => (he.mem _ _ (cell_lt (hw i x j u h1 h2)) (hi i x j u h1 h2)).2.trans (hw i x j u h1 h2))
      (fun i x j u a a' => ih i x j u a a' fun r hr => hc r (by rw [refs]; exact refsLL_get a a' hr)) h1
  | sw v id k xs h ht ih =>
    refine .sw v id k xs (ih fun r hr => hc r (by simp only [refs] at hr; simp only [refs, List.mem_cons]; exact .inr hr)) fun m k' hm => ?_
    obtain ⟨m0, h0, hle, hk⟩ := he.tok id m k' (hc id (by simp [refs])) hm
    obtain ⟨h1, h2⟩ := ht m0 k' h0
    refine ⟨by omega, fun e => ?_⟩
    have e0 : m = m0 := by omega
    obtain ⟨e1, e2⟩ := hk e0
    obtain ⟨rfl, h3⟩ := h2 (by omega)
    refine ⟨rfl, ?_⟩
    rcases h3 with ⟨b, c, vs, t, hb, hv, hw, hcc⟩ | ⟨hb, hv⟩
    · exact .inl ⟨b, c, vs, t, e1.trans hb, hv, (e2 b hb).trans hw, hcc⟩
    · exact .inr ⟨e1.trans hb, hv⟩
  | yl id b h hn =>
    obtain ⟨h3, h4⟩ := he.key id (hc id (by simp [refs])) hn
    exact .yl id b (h3 b h) h4
theorem ObjOk.keep {kb : Option Nat} {o : VObj} (h : ObjOk w K H kb o) (he : Keep p w K H w' K' H') (hb : ∀ b, kb = some b → w'.heap[b]? = w.heap[b]?)
    (hc : ∀ c ∈ contents o, ∀ r ∈ refs c, p r) (hd : ∀ L, o = .lp L → p L.dfr ∧ L.dfr < H'.length) : ObjOk w' K' H' kb o := by
  cases o with
  | obj cs =>
    intro b e
    obtain ⟨vs, t, h1, h2, h3⟩ := h b e
    exact ⟨vs, t, (hb b e).trans h1, h2, fun i v c a b => ⟨(h3 i v c a b).1.keep he (hc c (List.mem_of_getElem? b)), (h3 i v c a b).2⟩⟩
  | clm m k =>
    intro b e
    obtain ⟨vs, t, h1, h2⟩ := h b e
    exact ⟨vs, t, (hb b e).trans h1, h2⟩
  | mpo sh es =>
    obtain ⟨b, ents, clock, e, h1, h2, h3⟩ := h
    refine ⟨b, ents, clock, e, (hb b e).trans h1, h2, fun i x ks v a b => ?_⟩
    obtain ⟨p, q, r⟩ := h3 i x ks v a b
    exact ⟨p, q, r.keep he (hc v (List.mem_map.2 ⟨(ks, v), List.mem_of_getElem? b, rfl⟩))⟩
  | lp l =>
    obtain ⟨b, L, d, e, h1, a1, a2, a3, a4, a5, a6, a7, a8, a9, a10, a11, h3⟩ := h
    obtain ⟨d1, d2⟩ := hd l rfl
    obtain ⟨k1, k2⟩ := he.key l.dfr d1 a8
    refine ⟨b, L, d, e, (hb b e).trans h1, a1, a2, a3, a4, a5, a6, k1 d a7, k2, d2, a10, a11, fun t => (h3 t).keep he ?_⟩
    rcases get_mem (e := l.tm) (t := t) with h5 | ⟨k, h5⟩
    · rw [h5]; intro r hr; simp [refs] at hr
    · exact hc _ (List.mem_map.2 ⟨_, h5, rfl⟩)
  | dfr =>
    obtain ⟨b, e, h1⟩ := h
    exact ⟨b, e, (hb b e).trans h1⟩
  | dead => exact trivial
  | gone => exact trivial
theorem ObjOk.keepg {kb : Option Nat} {o : VObj} (h : ObjOk w K H kb o) (he : Keep p w K H w' K' H') (hb : o ≠ .gone → ∀ b, kb = some b → w'.heap[b]? = w.heap[b]?)
    (hc : ∀ c ∈ contents o, ∀ r ∈ refs c, p r) (hd : ∀ L, o = .lp L → p L.dfr ∧ L.dfr < H'.length) : ObjOk w' K' H' kb o := by
  by_cases hg : o = .gone
  · subst hg
    exact trivial
  · exact h.keep he (hb hg) hc hd
theorem keep_take (n : Nat) : Keep (· < n) w K H w K (H.take n) := by
  have hget : ∀ i ob, (H.take n)[i]? = some ob → H[i]? = some ob ∧ i < n := fun i ob h => by
    rw [List.getElem?_take] at h
    split at h
    · rename_i hi; exact ⟨h, hi⟩
    · cases h
  exact ⟨Szp.refl _, fun b o _ hi => ⟨fun i ob hob hK => hi i ob (hget i ob hob).1 hK, rfl⟩, fun i _ hn => ⟨fun _ h => h, fun m k hm => hn m k (hget i _ hm).1⟩, fun i m k _ hm => ⟨m, (hget i _ hm).1, Nat.le_refl _, fun _ => ⟨rfl, fun _ _ => rfl⟩⟩⟩
/-- what was known before a call stays known behind a turn of what the call made -/
theorem Ext.keep {w0 : World} {K0 : Nat → Option Nat} {H0 : List VObj} (he : Ext w0 K0 H0 w K H) (hk : Keep p w K H w' K' H') (hs : w.heap.size ≤ w'.heap.size)
    (hi : ∀ i, i < H0.length → H'[i]? = H[i]? ∧ K' i = K i ∧ (H[i]? ≠ some .gone → ∀ b, K i = some b → w'.heap[b]? = w.heap[b]?)) : Ext w0 K0 H0 w' K' H' := by
  refine ⟨Nat.le_trans he.size hs, he.sz.trans hk.sz, fun b o hb h => (hk.mem b o (Nat.lt_of_lt_of_le hb he.size) (he.im b o hb h)).1, fun b o hb h => (hk.mem b o (Nat.lt_of_lt_of_le hb he.size) (he.im b o hb h)).2.trans (he.cell b o hb h), fun i o ho => ?_⟩
  obtain ⟨o', h1, h2⟩ := he.obj i o ho
  obtain ⟨e1, e2, e3⟩ := hi i (List.getElem?_eq_some_iff.1 ho).1
  refine ⟨o', e1.trans h1, ?_⟩
  cases o with
  | clm m k =>
    obtain ⟨m', a1, a2, a3⟩ := h2
    refine ⟨m', a1, a2, fun e => ?_⟩
    obtain ⟨b1, b2⟩ := a3 e
    exact ⟨e2.trans b1, fun b hb => (e3 (by rw [h1, a1]; simp) b (b1.trans hb)).trans (b2 b hb)⟩
  | dead =>
    obtain ⟨a1, a2, a3⟩ := h2
    exact ⟨a1, e2.trans a2, fun b hb => (e3 (by rw [h1, a1]; simp) b (a2.trans hb)).trans (a3 b hb)⟩
  | dfr => exact ⟨h2.1, e2.trans h2.2⟩
  | lp L => exact ⟨h2.1, e2.trans h2.2⟩
  | obj cs => exact ⟨h2.1, e2.trans h2.2⟩
  | mpo sh es => exact ⟨h2.1, e2.trans h2.2⟩
  | gone => exact ⟨h2.1, e2.trans h2.2⟩

/-- a function's own objects go -/
theorem inv_take (hI : Inv G w K M) {n : Nat} (hn : n ≤ M.H.length) {lg' : List (Nat × Nat)} (h1 : ∀ e ∈ M.lg, e.1 < n → e.2 < n ∧ e ∈ lg') (h2 : ∀ e ∈ lg', e.1 < n ∧ e.2 < n) : Inv G w K { H := M.H.take n, lg := lg' } := by
  have hget : ∀ i ob, (M.H.take n)[i]? = some ob → M.H[i]? = some ob ∧ i < n := fun i ob h => by
    rw [List.getElem?_take] at h
    split at h
    · rename_i hi; exact ⟨h, hi⟩
    · cases h
  have hlen : (M.H.take n).length = n := by simp; omega
  have hcl : ∀ i o, M.H[i]? = some o → i < n → ∀ c ∈ contents o, ∀ r ∈ refs c, r < n ∧ (r ≤ i ∨ (i, r) ∈ lg') := fun i o ho hi c hc r hr => by
    obtain ⟨_, h | h⟩ := hI.cl i o ho c hc r hr
    · exact ⟨by omega, .inl h⟩
    · obtain ⟨a, b⟩ := h1 _ h hi
      exact ⟨a, .inr b⟩
  refine ⟨hI.os, hI.tape, hI.output, hI.size, hI.gB, hI.old, ?_, ?_, ?_, ?_, ?_, ?_⟩
  · intro i j b hi hj n1 n2
    simp only [hlen] at hi hj
    simp only at n1 n2
    rw [List.getElem?_take_of_lt hi] at n1
    rw [List.getElem?_take_of_lt hj] at n2
    exact hI.inj i j b (by omega) (by omega) n1 n2
  · intro i b hi
    simp only [hlen] at hi
    exact hI.blk i b (by omega)
  · intro i o ho
    obtain ⟨a, b⟩ := hget i o ho
    refine (hI.obj i o a).keep (keep_take n) (fun _ _ => rfl) (fun c hc r hr => (hcl i o a b c hc r hr).1) fun L e => ?_
    subst e
    have := hI.lpd i L a
    exact ⟨by omega, by simp only [hlen]; omega⟩
  · intro i o ho c hc r hr
    obtain ⟨a, b⟩ := hget i o ho
    simp only [hlen]
    exact hcl i o a b c hc r hr
  · intro e he
    simp only [hlen]
    exact h2 e he
  · intro i L hL
    exact hI.lpd i L (hget i _ hL).1

/-- the block of a range's deferred calls is shut -/
theorem step_kill (hI : Inv G w K M) {id b : Nat} (hi : M.H[id]? = some .dfr) (hK : K id = some b) :
    (Instr.takeDeferred b).run P w = .ok [] { w with heap := w.heap.setIfInBounds b (.deferred none) } ∧
      Keep (fun _ => True) w K M.H { w with heap := w.heap.setIfInBounds b (.deferred none) } K (M.H.set id .dead) ∧ Inv G { w with heap := w.heap.setIfInBounds b (.deferred none) } K { M with H := M.H.set id .dead } ∧
      ∀ b', b' ≠ b → ({ w with heap := w.heap.setIfInBounds b (.deferred none) } : World).heap[b']? = w.heap[b']? := by
  obtain ⟨b', e, hh⟩ := hI.obj id _ hi
  rw [hK] at e
  cases e
  have hset := MapKept.heap_set (o' := .deferred none) hh
  have hrun : (Instr.takeDeferred b).run P w = .ok [] { w with heap := w.heap.setIfInBounds b (.deferred none) } := by
    simp [Instr.takeDeferred, getObj, setObj, Sem.run, hh]
  have hil := (List.getElem?_eq_some_iff.1 hi).1
  have hkeep : Keep (fun _ => True) w K M.H { w with heap := w.heap.setIfInBounds b (.deferred none) } K (M.H.set id .dead) := by
    refine ⟨Szp.of_one (b0 := b) (fun b1 _ hne => hset.2 b1 hne) (fun v1 t1 z1 e1 => (by rw [hh] at e1; cases e1)), fun b1 o hb1 him => ?_, fun i _ hn => ⟨fun _ h => h, fun m k hm => ?_⟩, fun i m k _ hm => ?_⟩
    · have hne : b1 ≠ b := fun e => by
        subst e
        rcases him id _ hi hK with e | ⟨m, k, e, _⟩
        · exact e
        · cases e
      refine ⟨fun i ob hob hKi => ?_, World.cell?_of_block (hset.2 b1 hne)⟩
      rcases set_get hob with ⟨rfl, rfl, _⟩ | ⟨h1, h2⟩
      · rw [hK] at hKi
        cases hKi
        exact absurd rfl hne
      · exact him i ob h2 hKi
    · rcases set_get hm with ⟨rfl, e, _⟩ | ⟨h1, h2⟩
      · cases e
      · exact hn m k h2
    · rcases set_get hm with ⟨rfl, e, _⟩ | ⟨h1, h2⟩
      · cases e
      · refine ⟨m, h2, Nat.le_refl _, fun _ => ⟨rfl, fun b1 hb1 => hset.2 b1 fun e => ?_⟩⟩
        subst e
        exact h1 (hI.inj i id b1 (List.getElem?_eq_some_iff.1 h2).1 hil (by rw [h2]; simp) (by rw [hi]; simp) hb1 hK)
  refine ⟨hrun, hkeep, ?_, hset.2⟩
  refine ⟨hI.os, hI.tape, hI.output, by simpa using hI.size, by simpa using hI.gB, fun b1 h1 h2 => ?_, ?_, ?_, ?_, ?_, ?_, ?_⟩
  · refine (hset.2 b1 fun e => ?_).trans (hI.old b1 h1 h2)
    subst e
    rcases (hI.blk id b1 hil hK).2 with h | h
    · omega
    · exact h2 h
  · intro p q b1 hp hq n1 n2
    rw [List.length_set] at hp hq
    have hg0 : M.H[id]? ≠ some .gone := by rw [hi]; simp
    refine hI.inj p q b1 hp hq ?_ ?_
    · by_cases e : p = id
      · rw [e]; exact hg0
      · simp only at n1
        rwa [List.getElem?_set_ne (fun h => e h.symm)] at n1
    · by_cases e : q = id
      · rw [e]; exact hg0
      · simp only at n2
        rwa [List.getElem?_set_ne (fun h => e h.symm)] at n2
  · intro j b1 hj e
    rw [List.length_set] at hj
    exact ⟨by simpa using (hI.blk j b1 hj e).1, (hI.blk j b1 hj e).2⟩
  · intro j x hx
    rcases set_get hx with ⟨rfl, rfl, _⟩ | ⟨h1, h2⟩
    · exact trivial
    · refine (hI.obj j x h2).keepg hkeep (fun hg b1 eb => hset.2 b1 fun e' => ?_) (fun _ _ _ _ => trivial) fun L e => ⟨trivial, ?_⟩
      · subst e'
        exact h1 (hI.inj j id b1 (List.getElem?_eq_some_iff.1 h2).1 hil (by rw [h2]; simpa using hg) (by rw [hi]; simp) eb hK)
      · subst e
        have := hI.lpd j L h2
        have := (List.getElem?_eq_some_iff.1 h2).1
        rw [List.length_set]
        omega
  · intro j x hx c hcc r hr
    simp only [List.length_set]
    rcases set_get hx with ⟨rfl, rfl, _⟩ | ⟨h1, h2⟩
    · simp [contents] at hcc
    · exact hI.cl j x h2 c hcc r hr
  · intro e he
    simp only [List.length_set]
    exact hI.lg e he
  · intro j L hL
    rcases set_get hL with ⟨rfl, e, _⟩ | ⟨h1, h2⟩
    · cases e
    · exact hI.lpd j L h2
end
end Go.Proofs.Ytmagiabapakhcaa.Vm
