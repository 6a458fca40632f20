/- A part of the proofs about the chapter of the doors; it states no condition of its own. -/
import Derived.Test.YtmagiabapakhcaaB02
import Derived.Maps.AppendAt
set_option linter.unusedVariables false
set_option linter.unusedSimpArgs false
/- A machine on values: steps of memory. -/
namespace Go.Proofs.Ytmagiabapakhcaa.Vm
open Go

theorem isOne_eq (v : Value) : isOne v = v.oneCell' := by cases v <;> rfl
def upd (K : Nat → Option Nat) (i : Nat) (b : Option Nat) : Nat → Option Nat := fun j => if j = i then b else K j
theorem upd_same (K : Nat → Option Nat) (i : Nat) (b : Option Nat) : upd K i b i = b := by simp [upd]
theorem upd_ne (K : Nat → Option Nat) {i j : Nat} (b : Option Nat) (h : j ≠ i) : upd K i b j = K j := by simp [upd, h]

/-- the streams are as they were, and the heap has not shrunk -/
structure Calm (w w' : World) : Prop where
  os : w'.os = w.os
  tape : w'.tape = w.tape
  output : w'.output = w.output
  size : w.heap.size ≤ w'.heap.size
theorem Calm.refl (w : World) : Calm w w := ⟨rfl, rfl, rfl, Nat.le_refl _⟩

theorem push_get {H : List VObj} {o x : VObj} {i : Nat} (h : (H ++ [o])[i]? = some x) : (i < H.length ∧ H[i]? = some x) ∨ (i = H.length ∧ x = o) := by
  rcases Nat.lt_or_ge i H.length with hl | hl
  · rw [List.getElem?_append_left hl] at h
    exact .inl ⟨hl, h⟩
  · rw [List.getElem?_append_right hl] at h
    rcases Nat.eq_zero_or_pos (i - H.length) with h0 | h0
    · rw [h0] at h
      simp at h
      exact .inr ⟨by omega, h.symm⟩
    · rw [List.getElem?_eq_none (by simp; omega)] at h
      cases h
theorem objLe_same {w w' : World} {K K' : Nat → Option Nat} {i : Nat} {o : VObj} (hk : K' i = K i) (hb : ∀ b, K i = some b → w'.heap[b]? = w.heap[b]?) : ObjLe w K w' K' i o o := by
  cases o with
  | clm m k => exact ⟨m, rfl, Nat.le_refl _, fun _ => ⟨hk, hb⟩⟩
  | dead => exact ⟨rfl, hk, hb⟩
  | dfr => exact ⟨rfl, hk⟩
  | lp L => exact ⟨⟨L, rfl⟩, hk⟩
  | _ => exact ⟨fun _ _ e => VObj.noConfusion e, hk⟩

theorem objLe_ng {w w' : World} {K K' : Nat → Option Nat} {i : Nat} {o : VObj} (hk : K' i = K i) (hb : o ≠ .gone → ∀ b, K i = some b → w'.heap[b]? = w.heap[b]?) : ObjLe w K w' K' i o o := by
  by_cases hg : o = .gone
  · subst hg
    exact ⟨fun _ _ e => VObj.noConfusion e, hk⟩
  · exact objLe_same hk (hb hg)

section
variable {G : Ghost} {w w' : World} {K : Nat → Option Nat} {M : Mem}
theorem Inv.lt (hI : Inv G w K M) {i b : Nat} {o : VObj} (hi : M.H[i]? = some o) (hb : K i = some b) : b < w.heap.size := (hI.blk i b (List.getElem?_eq_some_iff.1 hi).1 hb).1
theorem Inv.content (hI : Inv G w K M) {i : Nat} {o : VObj} (hi : M.H[i]? = some o) : ∀ c ∈ contents o, Cl M.H.length c := fun c hc r hr => (hI.cl i o hi c hc r hr).1

/-- a step that makes blocks, and turns none that was there; no object, or one more -/
theorem step_made (hI : Inv G w K M) (hc : Calm w w') (hb : ∀ b, b < w.heap.size → w'.heap[b]? = w.heap[b]?) : Ext w K M.H w' K M.H ∧ Inv G w' K M := by
  have hE : Ext w K M.H w' K M.H := ⟨hc.size, Szp.of_old hb, fun b o _ h => h, fun b o hlt _ => World.cell?_of_block (hb b hlt), fun i o ho => ⟨o, ho, objLe_same rfl fun b e => hb b (hI.lt ho e)⟩⟩
  refine ⟨hE, hc.os.trans hI.os, hc.tape.trans hI.tape, hc.output.trans hI.output, Nat.le_trans hI.size hc.size, Nat.le_trans hI.gB hc.size, fun b h1 h2 => (hb b (Nat.lt_of_lt_of_le h1 hI.gB)).trans (hI.old b h1 h2), hI.inj,
    fun i b h1 h2 => ⟨Nat.lt_of_lt_of_le (hI.blk i b h1 h2).1 hc.size, (hI.blk i b h1 h2).2⟩, fun i o ho => (hI.obj i o ho).ext hE (fun b e => hb b (hI.lt ho e)) (hI.content ho), hI.cl, hI.lg, hI.lpd⟩
theorem step_new (hI : Inv G w K M) (hc : Calm w w') (hb : ∀ b, b < w.heap.size → w'.heap[b]? = w.heap[b]?) (o : VObj) (kb : Option Nat) (hk : ∀ b, kb = some b → w.heap.size ≤ b ∧ b < w'.heap.size)
    (hcl : ∀ c ∈ contents o, Cl (M.H.length + 1) c) (hok : Ext w K M.H w' (upd K M.H.length kb) (M.H ++ [o]) → ObjOk w' (upd K M.H.length kb) (M.H ++ [o]) kb o) (hlp : ∀ L, o = .lp L → L.dfr < M.H.length := by (intro L e; cases e)) :
    Ext w K M.H w' (upd K M.H.length kb) (M.H ++ [o]) ∧ Inv G w' (upd K M.H.length kb) (M.push o) := by
  have hne : ∀ i, i < M.H.length → upd K M.H.length kb i = K i := fun i hi => upd_ne K kb (by omega)
  have hE : Ext w K M.H w' (upd K M.H.length kb) (M.H ++ [o]) := by
    refine ⟨hc.size, Szp.of_old hb, fun b a hlt h i ob hi hKb => ?_, fun b a hlt _ => World.cell?_of_block (hb b hlt), fun i x hx => ?_⟩
    · rcases push_get hi with ⟨h1, h2⟩ | ⟨rfl, rfl⟩
      · rw [hne i h1] at hKb
        exact h i ob h2 hKb
      · rw [upd_same] at hKb
        have := (hk b hKb).1
        omega
    · have hlt := (List.getElem?_eq_some_iff.1 hx).1
      exact ⟨x, by rw [List.getElem?_append_left hlt]; exact hx, objLe_same (hne i hlt) fun b e => hb b (hI.lt hx e)⟩
  refine ⟨hE, hc.os.trans hI.os, hc.tape.trans hI.tape, hc.output.trans hI.output, Nat.le_trans hI.size hc.size, Nat.le_trans hI.gB hc.size, fun b h1 h2 => (hb b (Nat.lt_of_lt_of_le h1 hI.gB)).trans (hI.old b h1 h2), ?_, ?_, ?_, ?_, ?_, ?_⟩
  · intro i j b hi hj n1 n2 e1 e2
    simp only [Mem.push, List.length_append, List.length_singleton] at hi hj
    simp only [Mem.push] at n1 n2
    rcases Nat.lt_or_ge i M.H.length with h1 | h1 <;> rcases Nat.lt_or_ge j M.H.length with h2 | h2
    · rw [hne i h1] at e1
      rw [hne j h2] at e2
      rw [List.getElem?_append_left h1] at n1
      rw [List.getElem?_append_left h2] at n2
      exact hI.inj i j b h1 h2 n1 n2 e1 e2
    · obtain rfl : j = M.H.length := by omega
      rw [hne i h1] at e1
      rw [upd_same] at e2
      have := (hI.blk i b h1 e1).1
      have := (hk b e2).1
      omega
    · obtain rfl : i = M.H.length := by omega
      rw [hne j h2] at e2
      rw [upd_same] at e1
      have := (hI.blk j b h2 e2).1
      have := (hk b e1).1
      omega
    · omega
  · intro i b hi e
    simp only [Mem.push, List.length_append, List.length_singleton] at hi
    rcases Nat.lt_or_ge i M.H.length with h1 | h1
    · rw [hne i h1] at e
      exact ⟨Nat.lt_of_lt_of_le (hI.blk i b h1 e).1 hc.size, (hI.blk i b h1 e).2⟩
    · obtain rfl : i = M.H.length := by omega
      rw [upd_same] at e
      have hkb := hk b e
      have := hI.gB
      exact ⟨hkb.2, .inl (by omega)⟩
  · intro i x hx
    rcases push_get hx with ⟨h1, h2⟩ | ⟨rfl, rfl⟩
    · rw [hne i h1]
      exact (hI.obj i x h2).ext hE (fun b e => hb b (hI.lt h2 e)) (hI.content h2)
    · rw [upd_same]
      exact hok hE
  · intro i x hx c hcc r hr
    simp only [Mem.push, List.length_append, List.length_singleton]
    rcases push_get hx with ⟨h1, h2⟩ | ⟨rfl, rfl⟩
    · have := hI.cl i x h2 c hcc r hr
      exact ⟨by omega, this.2⟩
    · have := hcl c hcc r hr
      exact ⟨this, .inl (by omega)⟩
  · intro e he
    have := hI.lg e he
    simp only [Mem.push, List.length_append, List.length_singleton]
    omega
  · intro i L hL
    rcases push_get hL with ⟨h1, h2⟩ | ⟨rfl, rfl⟩
    · exact hI.lpd i L h2
    · exact hlp L rfl

theorem set_get {H : List VObj} {o x : VObj} {i j : Nat} (h : (H.set i o)[j]? = some x) : (j = i ∧ x = o ∧ i < H.length) ∨ (j ≠ i ∧ H[j]? = some x) := by
  rw [List.getElem?_set] at h
  by_cases e : i = j
  · subst e
    rw [if_pos rfl] at h
    split at h
    · rename_i hl
      cases h
      exact .inl ⟨rfl, rfl, hl⟩
    · cases h
  · rw [if_neg e] at h
    exact .inr ⟨fun h' => e h'.symm, h⟩
/-- a step that turns object i's block alone, i being no claim -/
theorem step_set (hI : Inv G w K M) (hc : Calm w w') {i b0 : Nat} {o o' : VObj} (hi : M.H[i]? = some o) (hKi : K i = some b0) (hn : ∀ m k, o ≠ .clm m k) (hnd : ¬ Fz o) (hndf : o ≠ .dfr) (hlp : ∀ L, o = .lp L → ∃ L', o' = .lp L') (hn' : ∀ m k, o' ≠ .clm m k)
    (hb : ∀ b, b < w.heap.size → b ≠ b0 → w'.heap[b]? = w.heap[b]?) (hsz : ∀ (vs : Array Value) (t : TypeId) (z : Nat × Nat), w.heap[b0]? = some (.cells vs t z) → ∃ vs', w'.heap[b0]? = some (.cells vs' t z) ∧ vs'.size = vs.size) (lg' : List (Nat × Nat))
    (hcl : ∀ c ∈ contents o', ∀ r ∈ refs c, r < M.H.length ∧ (r ≤ i ∨ (i, r) ∈ lg')) (hlg : ∀ e ∈ M.lg, e ∈ lg') (hlg' : ∀ e ∈ lg', e.1 < M.H.length ∧ e.2 < M.H.length)
    (hok : Ext w K M.H w' K (M.H.set i o') → ObjOk w' K (M.H.set i o') (some b0) o') (hlpd : ∀ L, o' = .lp L → L.dfr < i := by (intro L e; cases e)) :
    Ext w K M.H w' K (M.H.set i o') ∧ Inv G w' K { H := M.H.set i o', lg := lg' } := by
  have hil := (List.getElem?_eq_some_iff.1 hi).1
  have hgo : o ≠ .gone := fun e => hnd (by rw [e]; exact trivial)
  have hgi : M.H[i]? ≠ some .gone := by rw [hi]; simpa using hgo
  have hE : Ext w K M.H w' K (M.H.set i o') := by
    refine ⟨hc.size, Szp.of_one hb hsz, fun b a hlt h j ob hj hKb => ?_, fun b a hlt h => World.cell?_of_block (hb b hlt fun e => ?_), fun j x hx => ?_⟩
    · rcases set_get hj with ⟨rfl, rfl, _⟩ | ⟨h1, h2⟩
      · rcases h j o hi hKb with e | ⟨m, k, e, _⟩
        · exact absurd e hnd
        · exact absurd e (hn m k)
      · exact h j ob h2 hKb
    · subst e
      rcases h i o hi hKi with e | ⟨m, k, e, _⟩
      · exact absurd e hnd
      · exact absurd e (hn m k)
    · by_cases e : j = i
      · subst e
        rw [hi] at hx
        cases hx
        refine ⟨o', by rw [List.getElem?_set_self hil], ?_⟩
        cases o with
        | clm m k => exact absurd rfl (hn m k)
        | dead => exact absurd trivial hnd
        | gone => exact absurd trivial hnd
        | dfr => exact absurd rfl hndf
        | lp L => exact ⟨hlp L rfl, rfl⟩
        | _ => exact ⟨hn', rfl⟩
      · refine ⟨x, by rw [List.getElem?_set_ne (fun h => e h.symm)]; exact hx, objLe_ng rfl fun hg b eb => hb b (hI.lt hx eb) fun e' => ?_⟩
        subst e'
        exact e (hI.inj j i b (List.getElem?_eq_some_iff.1 hx).1 hil (by rw [hx]; simpa using hg) hgi eb hKi)
  refine ⟨hE, hc.os.trans hI.os, hc.tape.trans hI.tape, hc.output.trans hI.output, Nat.le_trans hI.size hc.size, Nat.le_trans hI.gB hc.size, fun b h1 h2 => ?_, ?_, ?_, ?_, ?_, ?_, ?_⟩
  · refine (hb b (Nat.lt_of_lt_of_le h1 hI.gB) fun e => ?_).trans (hI.old b h1 h2)
    subst e
    rcases (hI.blk i b hil hKi).2 with h | h
    · omega
    · exact h2 h
  · intro p q b hp hq n1 n2
    rw [List.length_set] at hp hq
    refine hI.inj p q b hp hq ?_ ?_
    · by_cases e : p = i
      · rw [e]; exact hgi
      · simp only at n1
        rwa [List.getElem?_set_ne (fun h => e h.symm)] at n1
    · by_cases e : q = i
      · rw [e]; exact hgi
      · simp only at n2
        rwa [List.getElem?_set_ne (fun h => e h.symm)] at n2
  · intro j b hj e
    rw [List.length_set] at hj
    exact ⟨Nat.lt_of_lt_of_le (hI.blk j b hj e).1 hc.size, (hI.blk j b hj e).2⟩
  · intro j x hx
    rcases set_get hx with ⟨rfl, rfl, _⟩ | ⟨h1, h2⟩
    · rw [hKi]
      exact hok hE
    · refine (hI.obj j x h2).extg hE (fun hg b eb => hb b (hI.lt h2 eb) fun e' => ?_) (hI.content h2)
      subst e'
      exact h1 (hI.inj j i b (List.getElem?_eq_some_iff.1 h2).1 hil (by rw [h2]; simpa using hg) hgi eb hKi)
  · intro j x hx c hcc r hr
    simp only [List.length_set]
    rcases set_get hx with ⟨rfl, rfl, _⟩ | ⟨h1, h2⟩
    · exact hcl c hcc r hr
    · obtain ⟨a1, a2⟩ := hI.cl j x h2 c hcc r hr
      exact ⟨a1, a2.imp id (hlg _)⟩
  · intro e he
    simp only [List.length_set]
    exact hlg' e he
  · intro j L hL
    rcases set_get hL with ⟨rfl, e, _⟩ | ⟨h1, h2⟩
    · exact hlpd L e.symm
    · exact hI.lpd j L h2

/-- the claim of a chain of appends grows, in its block -/
theorem step_claim (hI : Inv G w K M) (hc : Calm w w') {id b0 m m' k : Nat} {vs vs' : Array Value} {t : TypeId} (hi : M.H[id]? = some (.clm m k)) (hKi : K id = some b0)
    (hb : ∀ b, b < w.heap.size → b ≠ b0 → w'.heap[b]? = w.heap[b]?) (h0 : w.heap[b0]? = some (.cells vs t (0, 0))) (h1 : w'.heap[b0]? = some (.cells vs' t (0, 0))) (hsz : vs'.size = vs.size)
    (hpre : ∀ o, o < m * k → vs'[o]? = vs[o]?) (hm : m ≤ m') (hfit : m' * k ≤ vs'.size) (hsame : m' = m → vs' = vs) :
    Ext w K M.H w' K (M.H.set id (.clm m' k)) ∧ Inv G w' K { M with H := M.H.set id (.clm m' k) } := by
  have hil := (List.getElem?_eq_some_iff.1 hi).1
  have hgi : M.H[id]? ≠ some .gone := by rw [hi]; simp
  have hother : ∀ j b, j < M.H.length → j ≠ id → M.H[j]? ≠ some .gone → K j = some b → b ≠ b0 := fun j b hj hne hg hKj e => by
    subst e
    exact hne (hI.inj j id b hj hil hg hgi hKj hKi)
  have hE : Ext w K M.H w' K (M.H.set id (.clm m' k)) := by
    refine ⟨hc.size, Szp.of_one hb (fun v1 t1 z1 e1 => by
      rw [h0] at e1
      cases e1
      exact ⟨vs', h1, hsz⟩), fun b a hlt h j ob hj hKb => ?_, fun b a hlt h => ?_, fun j x hx => ?_⟩
    · rcases set_get hj with ⟨rfl, rfl, _⟩ | ⟨h1, h2⟩
      · rcases h j _ hi hKb with e | ⟨m1, k1, e, hlt1⟩
        · exact e.elim
        cases e
        exact .inr ⟨m', k, rfl, Nat.lt_of_lt_of_le hlt1 (Nat.mul_le_mul_right _ hm)⟩
      · exact h j ob h2 hKb
    · by_cases e : b = b0
      · subst e
        rcases h id _ hi hKi with e | ⟨m1, k1, e, hlt1⟩
        · exact e.elim
        cases e
        simp only [World.cell?, h0, h1]
        exact hpre a hlt1
      · exact World.cell?_of_block (hb b hlt e)
    · by_cases e : j = id
      · subst e
        rw [hi] at hx
        cases hx
        refine ⟨.clm m' k, by rw [List.getElem?_set_self hil], m', rfl, hm, fun e => ⟨rfl, fun b eb => ?_⟩⟩
        rw [hKi] at eb
        cases eb
        rw [h0, h1, hsame e]
      · have hjl := (List.getElem?_eq_some_iff.1 hx).1
        exact ⟨x, by rw [List.getElem?_set_ne (fun h => e h.symm)]; exact hx, objLe_ng rfl fun hg b eb => hb b (hI.lt hx eb) (hother j b hjl e (by rw [hx]; simpa using hg) eb)⟩
  refine ⟨hE, hc.os.trans hI.os, hc.tape.trans hI.tape, hc.output.trans hI.output, Nat.le_trans hI.size hc.size, Nat.le_trans hI.gB hc.size, fun b h1 h2 => ?_, ?_, ?_, ?_, ?_, ?_, ?_⟩
  · refine (hb b (Nat.lt_of_lt_of_le h1 hI.gB) fun e => ?_).trans (hI.old b h1 h2)
    subst e
    rcases (hI.blk id b hil hKi).2 with h | h
    · omega
    · exact h2 h
  · intro p q b hp hq n1 n2
    rw [List.length_set] at hp hq
    refine hI.inj p q b hp hq ?_ ?_
    · by_cases e : p = id
      · rw [e]; exact hgi
      · simp only at n1
        rwa [List.getElem?_set_ne (fun h => e h.symm)] at n1
    · by_cases e : q = id
      · rw [e]; exact hgi
      · simp only at n2
        rwa [List.getElem?_set_ne (fun h => e h.symm)] at n2
  · intro j b hj e
    rw [List.length_set] at hj
    exact ⟨Nat.lt_of_lt_of_le (hI.blk j b hj e).1 hc.size, (hI.blk j b hj e).2⟩
  · intro j x hx
    rcases set_get hx with ⟨rfl, rfl, _⟩ | ⟨h3, h2⟩
    · intro b eb
      rw [hKi] at eb
      cases eb
      exact ⟨vs', t, h1, hfit⟩
    · exact (hI.obj j x h2).extg hE (fun hg b eb => hb b (hI.lt h2 eb) (hother j b (List.getElem?_eq_some_iff.1 h2).1 h3 (by rw [h2]; simpa using hg) eb)) (hI.content h2)
  · intro j x hx c hcc r hr
    simp only [List.length_set]
    rcases set_get hx with ⟨rfl, rfl, _⟩ | ⟨h1, h2⟩
    · simp [contents] at hcc
    · exact hI.cl j x h2 c hcc r hr
  · intro e he
    simp only [List.length_set]
    exact hI.lg e he
  · intro j L hL
    rcases set_get hL with ⟨rfl, e, _⟩ | ⟨h1, h2⟩
    · cases e
    · exact hI.lpd j L h2
/-- the claim grows into a new block -/
theorem step_moved (hI : Inv G w K M) (hc : Calm w w') {id nb m m' k : Nat} {vs' : Array Value} {t : TypeId} (hi : M.H[id]? = some (.clm m k))
    (hb : ∀ b, b < w.heap.size → w'.heap[b]? = w.heap[b]?) (hnb : w.heap.size ≤ nb) (h1 : w'.heap[nb]? = some (.cells vs' t (0, 0)))
    (hm : m < m') (hfit : m' * k ≤ vs'.size) :
    Ext w K M.H w' (upd K id (some nb)) (M.H.set id (.clm m' k)) ∧ Inv G w' (upd K id (some nb)) { M with H := M.H.set id (.clm m' k) } := by
  have hil := (List.getElem?_eq_some_iff.1 hi).1
  have hnlt : nb < w'.heap.size := (Array.getElem?_eq_some_iff.1 h1).1
  have hE : Ext w K M.H w' (upd K id (some nb)) (M.H.set id (.clm m' k)) := by
    refine ⟨hc.size, Szp.of_old hb, fun b a hlt h j ob hj hKb => ?_, fun b a hlt h => World.cell?_of_block (hb b hlt), fun j x hx => ?_⟩
    · rcases set_get hj with ⟨rfl, rfl, _⟩ | ⟨h3, h2⟩
      · rw [upd_same] at hKb
        cases hKb
        omega
      · rw [upd_ne K _ h3] at hKb
        exact h j ob h2 hKb
    · by_cases e : j = id
      · subst e
        rw [hi] at hx
        cases hx
        exact ⟨.clm m' k, by rw [List.getElem?_set_self hil], m', rfl, by omega, fun e => by omega⟩
      · exact ⟨x, by rw [List.getElem?_set_ne (fun h => e h.symm)]; exact hx, objLe_same (upd_ne K _ e) fun b eb => hb b (hI.lt hx eb)⟩
  refine ⟨hE, hc.os.trans hI.os, hc.tape.trans hI.tape, hc.output.trans hI.output, Nat.le_trans hI.size hc.size, Nat.le_trans hI.gB hc.size, fun b h1 h2 => (hb b (Nat.lt_of_lt_of_le h1 hI.gB)).trans (hI.old b h1 h2), ?_, ?_, ?_, ?_, ?_, ?_⟩
  · intro i j b hii hj n1 n2 e1 e2
    rw [List.length_set] at hii hj
    simp only at n1 n2
    by_cases ei : i = id <;> by_cases ej : j = id
    · omega
    · subst ei
      rw [upd_same] at e1
      rw [upd_ne K _ ej] at e2
      cases e1
      have := (hI.blk j _ hj e2).1
      omega
    · subst ej
      rw [upd_same] at e2
      rw [upd_ne K _ ei] at e1
      cases e2
      have := (hI.blk i _ hii e1).1
      omega
    · rw [upd_ne K _ ei] at e1
      rw [upd_ne K _ ej] at e2
      rw [List.getElem?_set_ne (fun h => ei h.symm)] at n1
      rw [List.getElem?_set_ne (fun h => ej h.symm)] at n2
      exact hI.inj i j b hii hj n1 n2 e1 e2
  · intro j b hj e
    rw [List.length_set] at hj
    by_cases ej : j = id
    · subst ej
      rw [upd_same] at e
      cases e
      have := hI.gB
      exact ⟨hnlt, .inl (by omega)⟩
    · rw [upd_ne K _ ej] at e
      exact ⟨Nat.lt_of_lt_of_le (hI.blk j b hj e).1 hc.size, (hI.blk j b hj e).2⟩
  · intro j x hx
    rcases set_get hx with ⟨rfl, rfl, _⟩ | ⟨h3, h2⟩
    · rw [upd_same]
      intro b eb
      cases eb
      exact ⟨vs', t, h1, hfit⟩
    · rw [upd_ne K _ h3]
      exact (hI.obj j x h2).ext hE (fun b eb => hb b (hI.lt h2 eb)) (hI.content h2)
  · intro j x hx c hcc r hr
    simp only [List.length_set]
    rcases set_get hx with ⟨rfl, rfl, _⟩ | ⟨h1, h2⟩
    · simp [contents] at hcc
    · exact hI.cl j x h2 c hcc r hr
  · intro e he
    simp only [List.length_set]
    exact hI.lg e he
  · intro j L hL
    rcases set_get hL with ⟨rfl, e, _⟩ | ⟨h1, h2⟩
    · cases e
    · exact hI.lpd j L h2
theorem inj_set {H2 : List VObj} {lg2 : List (Nat × Nat)} (hI : Inv G w K M) (hl : H2.length = M.H.length) (hg : ∀ i : Nat, H2[i]? ≠ some VObj.gone → M.H[i]? ≠ some VObj.gone) : ∀ (i j b : Nat), i < (Mem.mk H2 lg2).H.length → j < (Mem.mk H2 lg2).H.length → (Mem.mk H2 lg2).H[i]? ≠ some VObj.gone → (Mem.mk H2 lg2).H[j]? ≠ some VObj.gone → K i = some b → K j = some b → i = j :=
  fun i j b hi hj n1 n2 e1 e2 => hI.inj i j b (by rw [← hl]; exact hi) (by rw [← hl]; exact hj) (hg i n1) (hg j n2) e1 e2
theorem gone_set {H : List VObj} {id : Nat} {o o' : VObj} (ho : H[id]? = some o) (hn : o ≠ VObj.gone) : ∀ i : Nat, (H.set id o')[i]? ≠ some VObj.gone → H[i]? ≠ some VObj.gone := fun i h => by
  by_cases e : i = id
  · subst e
    rw [ho]; simpa using hn
  · rwa [List.getElem?_set_ne (fun h => e h.symm)] at h
end
end Go.Proofs.Ytmagiabapakhcaa.Vm
