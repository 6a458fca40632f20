/- A part of the proofs about the chapter of the vaults; it states no condition of its own. -/
import Derived.Test.YtnjgdlmddlinaaaDoorB01
import Derived.Maps.AppendAt
import Derived.ChangeKeysEq
set_option linter.unusedVariables false
set_option linter.unusedSimpArgs false
/- A machine on values: steps of memory. -/
namespace Go.Proofs.YtnjgdlmddlinaaaDoor.Vm
open Go

theorem isOne_eq (v : Value) : isOne v = v.oneCell' := by cases v <;> rfl
def upd (K : Nat → Option Nat) (i : Nat) (b : Option Nat) : Nat → Option Nat := fun j => if j = i then b else K j
theorem upd_same (K : Nat → Option Nat) (i : Nat) (b : Option Nat) : upd K i b i = b := by simp [upd]
theorem upd_ne (K : Nat → Option Nat) {i j : Nat} (b : Option Nat) (h : j ≠ i) : upd K i b j = K j := by simp [upd, h]

structure Calm (w w' : World) : Prop where
 os : w'.os = w.os
 tape : w'.tape = w.tape
 output : w'.output = w.output
 size : w.heap.size ≤ w'.heap.size
theorem Calm.refl (w : World) : Calm w w := ⟨rfl, rfl, rfl, Nat.le_refl _⟩

theorem push_get {H : List VObj} {o x : VObj} {i : Nat} (h : (H ++ [o])[i]? = some x) : (i < H.length ∧ H[i]? = some x) ∨ (i = H.length ∧ x = o) := by
 rcases Nat.lt_or_ge i H.length with hl | hl
 ·rw [List.getElem?_append_left hl] at h
  exact .inl ⟨hl, h⟩
 ·rw [List.getElem?_append_right hl] at h
  rcases Nat.eq_zero_or_pos (i - H.length) with h0 | h0
  ·rw [h0] at h
   simp at h
   exact .inr ⟨by omega, h.symm⟩
  ·rw [List.getElem?_eq_none (by simp; omega)] at h
   cases h
theorem objLe_same {w w' : World} {K K' : Nat → Option Nat} {i : Nat} {o : VObj} (hk : K' i = K i) (hb : ∀ b, K i = some b → w'.heap[b]? = w.heap[b]?) : ObjLe w K w' K' i o o := by
 cases o with
 | clm m k => exact ⟨m, rfl, Nat.le_refl _, fun _ => ⟨hk, hb⟩⟩
 | dead => exact ⟨rfl, hk, hb⟩
 | dfr => exact ⟨rfl, hk⟩
 | lp L => exact ⟨⟨L, rfl⟩, hk⟩
 | _ => exact ⟨fun _ _ e => VObj.noConfusion e, hk⟩

theorem objLe_ng {w w' : World} {K K' : Nat → Option Nat} {i : Nat} {o : VObj} (hk : K' i = K i) (hb : o ≠ .gone → ∀ b, K i = some b → w'.heap[b]? = w.heap[b]?) : ObjLe w K w' K' i o o := by
 by_cases hg : o = .gone
 ·subst hg
  exact ⟨fun _ _ e => VObj.noConfusion e, hk⟩
 ·exact objLe_same hk (hb hg)

section
variable {G : Ghost} {w w' : World} {K : Nat → Option Nat} {M : Mem}
theorem Inv.lt (hI : Inv G w K M) {i b : Nat} {o : VObj} (hi : M.H[i]? = some o) (hb : K i = some b) : b < w.heap.size := (hI.blk i b (List.getElem?_eq_some_iff.1 hi).1 hb).1
theorem Inv.content (hI : Inv G w K M) {i : Nat} {o : VObj} (hi : M.H[i]? = some o) : ∀ c ∈ contents o, Cl M.H.length c := fun c hc r hr => (hI.cl i o hi c hc r hr).1

theorem step_made (hI : Inv G w K M) (hc : Calm w w') (hb : ∀ b, b < w.heap.size → w'.heap[b]? = w.heap[b]?) : Ext w K M.H w' K M.H ∧ Inv G w' K M := by
 have hE : Ext w K M.H w' K M.H := ⟨hc.size, Szp.of_old hb, fun b o _ h => h, fun b o hlt _ => World.cell?_of_block (hb b hlt), fun i o ho => ⟨o, ho, objLe_same rfl fun b e => hb b (hI.lt ho e)⟩⟩
 refine ⟨hE, hc.os.trans hI.os, hc.tape.trans hI.tape, hc.output.trans hI.output, Nat.le_trans hI.size hc.size, Nat.le_trans hI.gB hc.size, fun b h1 h2 => (hb b (Nat.lt_of_lt_of_le h1 hI.gB)).trans (hI.old b h1 h2), hI.inj,
  fun i b h1 h2 => ⟨Nat.lt_of_lt_of_le (hI.blk i b h1 h2).1 hc.size, (hI.blk i b h1 h2).2⟩, fun i o ho => (hI.obj i o ho).ext hE (fun b e => hb b (hI.lt ho e)) (hI.content ho), hI.cl, hI.lg, hI.lpd⟩
theorem step_new (hI : Inv G w K M) (hc : Calm w w') (hb : ∀ b, b < w.heap.size → w'.heap[b]? = w.heap[b]?) (o : VObj) (kb : Option Nat) (hk : ∀ b, kb = some b → w.heap.size ≤ b ∧ b < w'.heap.size)
  (hcl : ∀ c ∈ contents o, Cl (M.H.length + 1) c) (hok : Ext w K M.H w' (upd K M.H.length kb) (M.H ++ [o]) → ObjOk w' (upd K M.H.length kb) (M.H ++ [o]) kb o) (hlp : ∀ L, o = .lp L → L.dfr < M.H.length := by (intro L e; cases e)) :
  Ext w K M.H w' (upd K M.H.length kb) (M.H ++ [o]) ∧ Inv G w' (upd K M.H.length kb) (M.push o) := by
 have hne : ∀ i, i < M.H.length → upd K M.H.length kb i = K i := fun i hi => upd_ne K kb (by omega)
 have hE : Ext w K M.H w' (upd K M.H.length kb) (M.H ++ [o]) := by
  refine ⟨hc.size, Szp.of_old hb, fun b a hlt h i ob hi hKb => ?_, fun b a hlt _ => World.cell?_of_block (hb b hlt), fun i x hx => ?_⟩
  ·rcases push_get hi with ⟨h1, h2⟩ | ⟨rfl, rfl⟩
   ·rw [hne i h1] at hKb
    exact h i ob h2 hKb
   ·rw [upd_same] at hKb
    have := (hk b hKb).1
    omega
  ·have hlt := (List.getElem?_eq_some_iff.1 hx).1
   exact ⟨x, by rw [List.getElem?_append_left hlt]; exact hx, objLe_same (hne i hlt) fun b e => hb b (hI.lt hx e)⟩
 refine ⟨hE, hc.os.trans hI.os, hc.tape.trans hI.tape, hc.output.trans hI.output, Nat.le_trans hI.size hc.size, Nat.le_trans hI.gB hc.size, fun b h1 h2 => (hb b (Nat.lt_of_lt_of_le h1 hI.gB)).trans (hI.old b h1 h2), ?_, ?_, ?_, ?_, ?_, ?_⟩
 ·intro i j b hi hj n1 n2 e1 e2
  simp only [Mem.push, List.length_append, List.length_singleton] at hi hj
  simp only [Mem.push] at n1 n2
  rcases Nat.lt_or_ge i M.H.length with h1 | h1 <;> rcases Nat.lt_or_ge j M.H.length with h2 | h2
  ·rw [hne i h1] at e1
   rw [hne j h2] at e2
   rw [List.getElem?_append_left h1] at n1
   rw [List.getElem?_append_left h2] at n2
   exact hI.inj i j b h1 h2 n1 n2 e1 e2
  ·obtain rfl : j = M.H.length := by omega
   rw [hne i h1] at e1
   rw [upd_same] at e2
   have := (hI.blk i b h1 e1).1
   have := (hk b e2).1
   omega
  ·obtain rfl : i = M.H.length := by omega
   rw [hne j h2] at e2
   rw [upd_same] at e1
   have := (hI.blk j b h2 e2).1
   have := (hk b e1).1
   omega
  ·omega
 ·intro i b hi e
  simp only [Mem.push, List.length_append, List.length_singleton] at hi
  rcases Nat.lt_or_ge i M.H.length with h1 | h1
  ·rw [hne i h1] at e
   exact ⟨Nat.lt_of_lt_of_le (hI.blk i b h1 e).1 hc.size, (hI.blk i b h1 e).2⟩
  ·obtain rfl : i = M.H.length := by omega
   rw [upd_same] at e
   have hkb := hk b e
   have := hI.gB
   exact ⟨hkb.2, .inl (by omega)⟩
 ·intro i x hx
  rcases push_get hx with ⟨h1, h2⟩ | ⟨rfl, rfl⟩
  ·rw [hne i h1]
   exact (hI.obj i x h2).ext hE (fun b e => hb b (hI.lt h2 e)) (hI.content h2)
  ·rw [upd_same]
   exact hok hE
 ·intro i x hx c hcc r hr
  simp only [Mem.push, List.length_append, List.length_singleton]
  rcases push_get hx with ⟨h1, h2⟩ | ⟨rfl, rfl⟩
  ·have := hI.cl i x h2 c hcc r hr
   exact ⟨by omega, this.2⟩
  ·have := hcl c hcc r hr
   exact ⟨this, .inl (by omega)⟩
 ·intro e he
  have := hI.lg e he
  simp only [Mem.push, List.length_append, List.length_singleton]
  omega
 ·intro i L hL
  rcases push_get hL with ⟨h1, h2⟩ | ⟨rfl, rfl⟩
  ·exact hI.lpd i L h2
  ·exact hlp L rfl

theorem set_get {H : List VObj} {o x : VObj} {i j : Nat} (h : (H.set i o)[j]? = some x) : (j = i ∧ x = o ∧ i < H.length) ∨ (j ≠ i ∧ H[j]? = some x) := by
 rw [List.getElem?_set] at h
 by_cases e : i = j
 ·subst e
  rw [if_pos rfl] at h
  split at h
  ·rename_i hl
   cases h
   exact .inl ⟨rfl, rfl, hl⟩
  ·cases h
 ·rw [if_neg e] at h
  exact .inr ⟨fun h' => e h'.symm, h⟩
theorem step_set (hI : Inv G w K M) (hc : Calm w w') {i b0 : Nat} {o o' : VObj} (hi : M.H[i]? = some o) (hKi : K i = some b0) (hn : ∀ m k, o ≠ .clm m k) (hnd : ¬ Fz o) (hndf : o ≠ .dfr) (hlp : ∀ L, o = .lp L → ∃ L', o' = .lp L') (hn' : ∀ m k, o' ≠ .clm m k)
  (hb : ∀ b, b < w.heap.size → b ≠ b0 → w'.heap[b]? = w.heap[b]?) (hsz : ∀ (vs : Array Value) (t : TypeId) (z : Nat × Nat), w.heap[b0]? = some (.cells vs t z) → ∃ vs', w'.heap[b0]? = some (.cells vs' t z) ∧ vs'.size = vs.size) (lg' : List (Nat × Nat))
  (hcl : ∀ c ∈ contents o', ∀ r ∈ refs c, r < M.H.length ∧ (r ≤ i ∨ (i, r) ∈ lg')) (hlg : ∀ e ∈ M.lg, e ∈ lg') (hlg' : ∀ e ∈ lg', e.1 < M.H.length ∧ e.2 < M.H.length)
  (hok : Ext w K M.H w' K (M.H.set i o') → ObjOk w' K (M.H.set i o') (some b0) o') (hlpd : ∀ L, o' = .lp L → L.dfr < i := by (intro L e; cases e)) :
  Ext w K M.H w' K (M.H.set i o') ∧ Inv G w' K { H := M.H.set i o', lg := lg' } := by
 have hil := (List.getElem?_eq_some_iff.1 hi).1
 have hgo : o ≠ .gone := fun e => hnd (by rw [e]; exact trivial)
 have hgi : M.H[i]? ≠ some .gone := by rw [hi]; simpa using hgo
 have hE : Ext w K M.H w' K (M.H.set i o') := by
  refine ⟨hc.size, Szp.of_one hb hsz, fun b a hlt h j ob hj hKb => ?_, fun b a hlt h => World.cell?_of_block (hb b hlt fun e => ?_), fun j x hx => ?_⟩
  ·rcases set_get hj with ⟨rfl, rfl, _⟩ | ⟨h1, h2⟩
   ·rcases h j o hi hKb with e | ⟨m, k, e, _⟩
    ·exact absurd e hnd
    ·exact absurd e (hn m k)
   ·exact h j ob h2 hKb
  ·subst e
   rcases h i o hi hKi with e | ⟨m, k, e, _⟩
   ·exact absurd e hnd
   ·exact absurd e (hn m k)
  ·by_cases e : j = i
   ·subst e
    rw [hi] at hx
    cases hx
    refine ⟨o', by rw [List.getElem?_set_self hil], ?_⟩
    cases o with
    | clm m k => exact absurd rfl (hn m k)
    | dead => exact absurd trivial hnd
    | gone => exact absurd trivial hnd
    | dfr => exact absurd rfl hndf
    | lp L => exact ⟨hlp L rfl, rfl⟩
    | _ => exact ⟨hn', rfl⟩
   ·refine ⟨x, by rw [List.getElem?_set_ne (fun h => e h.symm)]; exact hx, objLe_ng rfl fun hg b eb => hb b (hI.lt hx eb) fun e' => ?_⟩
    subst e'
    exact e (hI.inj j i b (List.getElem?_eq_some_iff.1 hx).1 hil (by rw [hx]; simpa using hg) hgi eb hKi)
 refine ⟨hE, hc.os.trans hI.os, hc.tape.trans hI.tape, hc.output.trans hI.output, Nat.le_trans hI.size hc.size, Nat.le_trans hI.gB hc.size, fun b h1 h2 => ?_, ?_, ?_, ?_, ?_, ?_, ?_⟩
 ·refine (hb b (Nat.lt_of_lt_of_le h1 hI.gB) fun e => ?_).trans (hI.old b h1 h2)
  subst e
  rcases (hI.blk i b hil hKi).2 with h | h
  ·omega
  ·exact h2 h
 ·intro p q b hp hq n1 n2
  rw [List.length_set] at hp hq
  refine hI.inj p q b hp hq ?_ ?_
  ·by_cases e : p = i
   ·rw [e]; exact hgi
   ·simp only at n1
    rwa [List.getElem?_set_ne (fun h => e h.symm)] at n1
  ·by_cases e : q = i
   ·rw [e]; exact hgi
   ·simp only at n2
    rwa [List.getElem?_set_ne (fun h => e h.symm)] at n2
 ·intro j b hj e
  rw [List.length_set] at hj
  exact ⟨Nat.lt_of_lt_of_le (hI.blk j b hj e).1 hc.size, (hI.blk j b hj e).2⟩
 ·intro j x hx
  rcases set_get hx with ⟨rfl, rfl, _⟩ | ⟨h1, h2⟩
  ·rw [hKi]
   exact hok hE
  ·refine (hI.obj j x h2).extg hE (fun hg b eb => hb b (hI.lt h2 eb) fun e' => ?_) (hI.content h2)
   subst e'
   exact h1 (hI.inj j i b (List.getElem?_eq_some_iff.1 h2).1 hil (by rw [h2]; simpa using hg) hgi eb hKi)
 ·intro j x hx c hcc r hr
  simp only [List.length_set]
  rcases set_get hx with ⟨rfl, rfl, _⟩ | ⟨h1, h2⟩
  ·exact hcl c hcc r hr
  ·obtain ⟨a1, a2⟩ := hI.cl j x h2 c hcc r hr
   exact ⟨a1, a2.imp id (hlg _)⟩
 ·intro e he
  simp only [List.length_set]
  exact hlg' e he
 ·intro j L hL
  rcases set_get hL with ⟨rfl, e, _⟩ | ⟨h1, h2⟩
  ·exact hlpd L e.symm
  ·exact hI.lpd j L h2

theorem step_claim (hI : Inv G w K M) (hc : Calm w w') {id b0 m m' k : Nat} {vs vs' : Array Value} {t : TypeId} (hi : M.H[id]? = some (.clm m k)) (hKi : K id = some b0)
  (hb : ∀ b, b < w.heap.size → b ≠ b0 → w'.heap[b]? = w.heap[b]?) (h0 : w.heap[b0]? = some (.cells vs t (0, 0))) (h1 : w'.heap[b0]? = some (.cells vs' t (0, 0))) (hsz : vs'.size = vs.size)
  (hpre : ∀ o, o < m * k → vs'[o]? = vs[o]?) (hm : m ≤ m') (hfit : m' * k ≤ vs'.size) (hsame : m' = m → vs' = vs) :
  Ext w K M.H w' K (M.H.set id (.clm m' k)) ∧ Inv G w' K { M with H := M.H.set id (.clm m' k) } := by
 have hil := (List.getElem?_eq_some_iff.1 hi).1
 have hgi : M.H[id]? ≠ some .gone := by rw [hi]; simp
 have hother : ∀ j b, j < M.H.length → j ≠ id → M.H[j]? ≠ some .gone → K j = some b → b ≠ b0 := fun j b hj hne hg hKj e => by
  subst e
  exact hne (hI.inj j id b hj hil hg hgi hKj hKi)
 have hE : Ext w K M.H w' K (M.H.set id (.clm m' k)) := by
  refine ⟨hc.size, Szp.of_one hb (fun v1 t1 z1 e1 => by
   rw [h0] at e1
   cases e1
   exact ⟨vs', h1, hsz⟩), fun b a hlt h j ob hj hKb => ?_, fun b a hlt h => ?_, fun j x hx => ?_⟩
  ·rcases set_get hj with ⟨rfl, rfl, _⟩ | ⟨h1, h2⟩
   ·rcases h j _ hi hKb with e | ⟨m1, k1, e, hlt1⟩
    ·exact e.elim
    cases e
    exact .inr ⟨m', k, rfl, Nat.lt_of_lt_of_le hlt1 (Nat.mul_le_mul_right _ hm)⟩
   ·exact h j ob h2 hKb
  ·by_cases e : b = b0
   ·subst e
    rcases h id _ hi hKi with e | ⟨m1, k1, e, hlt1⟩
    ·exact e.elim
    cases e
    simp only [World.cell?, h0, h1]
    exact hpre a hlt1
   ·exact World.cell?_of_block (hb b hlt e)
  ·by_cases e : j = id
   ·subst e
    rw [hi] at hx
    cases hx
    refine ⟨.clm m' k, by rw [List.getElem?_set_self hil], m', rfl, hm, fun e => ⟨rfl, fun b eb => ?_⟩⟩
    rw [hKi] at eb
    cases eb
    rw [h0, h1, hsame e]
   ·have hjl := (List.getElem?_eq_some_iff.1 hx).1
    exact ⟨x, by rw [List.getElem?_set_ne (fun h => e h.symm)]; exact hx, objLe_ng rfl fun hg b eb => hb b (hI.lt hx eb) (hother j b hjl e (by rw [hx]; simpa using hg) eb)⟩
 refine ⟨hE, hc.os.trans hI.os, hc.tape.trans hI.tape, hc.output.trans hI.output, Nat.le_trans hI.size hc.size, Nat.le_trans hI.gB hc.size, fun b h1 h2 => ?_, ?_, ?_, ?_, ?_, ?_, ?_⟩
 ·refine (hb b (Nat.lt_of_lt_of_le h1 hI.gB) fun e => ?_).trans (hI.old b h1 h2)
  subst e
  rcases (hI.blk id b hil hKi).2 with h | h
  ·omega
  ·exact h2 h
 ·intro p q b hp hq n1 n2
  rw [List.length_set] at hp hq
  refine hI.inj p q b hp hq ?_ ?_
  ·by_cases e : p = id
   ·rw [e]; exact hgi
   ·simp only at n1
    rwa [List.getElem?_set_ne (fun h => e h.symm)] at n1
  ·by_cases e : q = id
   ·rw [e]; exact hgi
   ·simp only at n2
    rwa [List.getElem?_set_ne (fun h => e h.symm)] at n2
 ·intro j b hj e
  rw [List.length_set] at hj
  exact ⟨Nat.lt_of_lt_of_le (hI.blk j b hj e).1 hc.size, (hI.blk j b hj e).2⟩
 ·intro j x hx
  rcases set_get hx with ⟨rfl, rfl, _⟩ | ⟨h3, h2⟩
  ·intro b eb
   rw [hKi] at eb
   cases eb
   exact ⟨vs', t, h1, hfit⟩
  ·exact (hI.obj j x h2).extg hE (fun hg b eb => hb b (hI.lt h2 eb) (hother j b (List.getElem?_eq_some_iff.1 h2).1 h3 (by rw [h2]; simpa using hg) eb)) (hI.content h2)
 ·intro j x hx c hcc r hr
  simp only [List.length_set]
  rcases set_get hx with ⟨rfl, rfl, _⟩ | ⟨h1, h2⟩
  ·simp [contents] at hcc
  ·exact hI.cl j x h2 c hcc r hr
 ·intro e he
  simp only [List.length_set]
  exact hI.lg e he
 ·intro j L hL
  rcases set_get hL with ⟨rfl, e, _⟩ | ⟨h1, h2⟩
  ·cases e
  ·exact hI.lpd j L h2
theorem step_moved (hI : Inv G w K M) (hc : Calm w w') {id nb m m' k : Nat} {vs' : Array Value} {t : TypeId} (hi : M.H[id]? = some (.clm m k))
  (hb : ∀ b, b < w.heap.size → w'.heap[b]? = w.heap[b]?) (hnb : w.heap.size ≤ nb) (h1 : w'.heap[nb]? = some (.cells vs' t (0, 0)))
  (hm : m < m') (hfit : m' * k ≤ vs'.size) :
  Ext w K M.H w' (upd K id (some nb)) (M.H.set id (.clm m' k)) ∧ Inv G w' (upd K id (some nb)) { M with H := M.H.set id (.clm m' k) } := by
 have hil := (List.getElem?_eq_some_iff.1 hi).1
 have hnlt : nb < w'.heap.size := (Array.getElem?_eq_some_iff.1 h1).1
 have hE : Ext w K M.H w' (upd K id (some nb)) (M.H.set id (.clm m' k)) := by
  refine ⟨hc.size, Szp.of_old hb, fun b a hlt h j ob hj hKb => ?_, fun b a hlt h => World.cell?_of_block (hb b hlt), fun j x hx => ?_⟩
  ·rcases set_get hj with ⟨rfl, rfl, _⟩ | ⟨h3, h2⟩
   ·rw [upd_same] at hKb
    cases hKb
    omega
   ·rw [upd_ne K _ h3] at hKb
    exact h j ob h2 hKb
  ·by_cases e : j = id
   ·subst e
    rw [hi] at hx
    cases hx
    exact ⟨.clm m' k, by rw [List.getElem?_set_self hil], m', rfl, by omega, fun e => by omega⟩
   ·exact ⟨x, by rw [List.getElem?_set_ne (fun h => e h.symm)]; exact hx, objLe_same (upd_ne K _ e) fun b eb => hb b (hI.lt hx eb)⟩
 refine ⟨hE, hc.os.trans hI.os, hc.tape.trans hI.tape, hc.output.trans hI.output, Nat.le_trans hI.size hc.size, Nat.le_trans hI.gB hc.size, fun b h1 h2 => (hb b (Nat.lt_of_lt_of_le h1 hI.gB)).trans (hI.old b h1 h2), ?_, ?_, ?_, ?_, ?_, ?_⟩
 ·intro i j b hii hj n1 n2 e1 e2
  rw [List.length_set] at hii hj
  simp only at n1 n2
  by_cases ei : i = id <;> by_cases ej : j = id
  ·omega
  ·subst ei
   rw [upd_same] at e1
   rw [upd_ne K _ ej] at e2
   cases e1
   have := (hI.blk j _ hj e2).1
   omega
  ·subst ej
   rw [upd_same] at e2
   rw [upd_ne K _ ei] at e1
   cases e2
   have := (hI.blk i _ hii e1).1
   omega
  ·rw [upd_ne K _ ei] at e1
   rw [upd_ne K _ ej] at e2
   rw [List.getElem?_set_ne (fun h => ei h.symm)] at n1
   rw [List.getElem?_set_ne (fun h => ej h.symm)] at n2
   exact hI.inj i j b hii hj n1 n2 e1 e2
 ·intro j b hj e
  rw [List.length_set] at hj
  by_cases ej : j = id
  ·subst ej
   rw [upd_same] at e
   cases e
   have := hI.gB
   exact ⟨hnlt, .inl (by omega)⟩
  ·rw [upd_ne K _ ej] at e
   exact ⟨Nat.lt_of_lt_of_le (hI.blk j b hj e).1 hc.size, (hI.blk j b hj e).2⟩
 ·intro j x hx
  rcases set_get hx with ⟨rfl, rfl, _⟩ | ⟨h3, h2⟩
  ·rw [upd_same]
   intro b eb
   cases eb
   exact ⟨vs', t, h1, hfit⟩
  ·rw [upd_ne K _ h3]
   exact (hI.obj j x h2).ext hE (fun b eb => hb b (hI.lt h2 eb)) (hI.content h2)
 ·intro j x hx c hcc r hr
  simp only [List.length_set]
  rcases set_get hx with ⟨rfl, rfl, _⟩ | ⟨h1, h2⟩
  ·simp [contents] at hcc
  ·exact hI.cl j x h2 c hcc r hr
 ·intro e he
  simp only [List.length_set]
  exact hI.lg e he
 ·intro j L hL
  rcases set_get hL with ⟨rfl, e, _⟩ | ⟨h1, h2⟩
  ·cases e
  ·exact hI.lpd j L h2
theorem inj_set {H2 : List VObj} {lg2 : List (Nat × Nat)} (hI : Inv G w K M) (hl : H2.length = M.H.length) (hg : ∀ i : Nat, H2[i]? ≠ some VObj.gone → M.H[i]? ≠ some VObj.gone) : ∀ (i j b : Nat), i < (Mem.mk H2 lg2).H.length → j < (Mem.mk H2 lg2).H.length → (Mem.mk H2 lg2).H[i]? ≠ some VObj.gone → (Mem.mk H2 lg2).H[j]? ≠ some VObj.gone → K i = some b → K j = some b → i = j :=
 fun i j b hi hj n1 n2 e1 e2 => hI.inj i j b (by rw [← hl]; exact hi) (by rw [← hl]; exact hj) (hg i n1) (hg j n2) e1 e2
theorem gone_set {H : List VObj} {id : Nat} {o o' : VObj} (ho : H[id]? = some o) (hn : o ≠ VObj.gone) : ∀ i : Nat, (H.set id o')[i]? ≠ some VObj.gone → H[i]? ≠ some VObj.gone := fun i h => by
 by_cases e : i = id
 ·subst e
  rw [ho]; simpa using hn
 ·rwa [List.getElem?_set_ne (fun h => e h.symm)] at h
end
end Go.Proofs.YtnjgdlmddlinaaaDoor.Vm

/- A machine on values: its operations are true, part 1. -/
namespace Go.Proofs.YtnjgdlmddlinaaaDoor.Vm
open Go

def Ty.z (y : Ty) : Value := bif y.agg then .agg y.zero.toArray else y.zero.headD undef
def TdOk (P : Program) (t : Nat) : Td → Prop
 | .int k => P.underlying t = some (.int k)
 | .bool => P.underlying t = some .bool
 | .str => P.underlying t = some .string
 | .slice e ke be => P.underlying t = some (.slice e) ∧ ∃ i z, P.info? e = some i ∧ i.size = ke ∧ i.bytes = be ∧ i.zero = some z ∧ z.cells.size = ke ∧ 0 < ke ∧ 0 < be
 | .arr n e ke => P.underlying t = some (.array n e) ∧ ∃ i, P.info? e = some i ∧ i.size = ke
 | .map k e => P.underlying t = some (.map k e)
 | .struct fs => ∃ fields, P.underlying t = some (.struct fields) ∧ fields.size = fs.length ∧ ∀ (j : Nat) (f : Field), fields[j]? = some f → ∃ i, P.info? f.type = some i ∧ fs[j]? = some (f.offset, i.size) ∧ i.size ≠ 0
 | .iface => ∃ ms, P.underlying t = some (.interface ms)
 | .other => True
def nums (xs : List Int) : Value := .agg (xs.map (Value.int .i64)).toArray
structure CmpOk (P : Program) (t n : Nat) : Prop where
 eq : ∀ (xs ys : List Int) (w : World), xs.length = n → ys.length = n → (Op.equal t (nums xs) (nums ys)).run P w = .ok (decide (xs = ys)) w
 guard : P.eqGuardType P.depth t = false
 key : ∀ (xs : List Int) (e : Bool) (w : World), xs.length = n → (Instr.checkKey e 10000 t (nums xs)).run P w = .ok () w
 und : ∃ d, P.underlying t = some d ∧ (∀ k, d ≠ .int k) ∧ d ≠ .string ∧ d ≠ .bool
structure TyOk (P : Program) (t : Nat) (y : Ty) : Prop where
 info : ∃ i, P.info? t = some i ∧ i.size = y.size ∧ i.zero = some y.z
 zlen : y.zero.length = y.size
 one : ∀ v ∈ y.zero, isOne v = true
 flat : y.agg = false → y.size = 1
 agg : ∃ d, P.underlying t = some d ∧ (y.agg = (match d with | .struct _ => true | .array _ _ => true | _ => false))
 d : TdOk P t y.d
 cmp : y.cmp = true → CmpOk P t y.size
structure TabOk (P : Program) (T : Tab) : Prop where
 ty : ∀ t y, T.ty t = some y → TyOk P t y
 fn : ∀ f fn, T.fn f = some fn → P.funcs[f]? = some fn ∧ (fn.name == "runtime.NumGoroutine") = false ∧ fn.body.isNone = false
 mixed : P.follows .mixedOrders = true

theorem add_none (b off j : Nat) : (⟨b, off, none⟩ : Addr).add j = ⟨b, off + j, none⟩ := by unfold Addr.add; split <;> simp_all

section
variable {P : Program} {T : Tab} {G : Ghost} {w : World} {K : Nat → Option Nat} {M M' : Mem} {H : List VObj}

theorem ofValue_ok (v : Value) : RepV w K H v (ofValue v) := by
 unfold ofValue
 split
 ·exact .p _ _ (.int _ _)
 ·exact .p _ _ (.bool _)
 ·exact .p _ _ (.str _)
 ·exact .p _ _ .nilp
 ·exact .p _ _ .nilm
 ·exact .p _ _ .nilf
 ·exact .p _ _ .ifn
 ·exact .sf none 0 [] (.sl none 0 0 0 0 [] (fun _ _ => .nilFunc) (by simp) (by simp [maxLen]) (by simp) (by simp) (by simp) (by simp) (by simp))
 ·exact .fn _ #[] #[] [] [] rfl rfl (by simp) (by simp)
 ·exact .any _
theorem ofValue_refs (v : Value) : refs (ofValue v) = [] := by
 unfold ofValue
 split <;> simp [refs, refsL]
theorem ofValue_cl (n : Nat) (v : Value) : Cl n (ofValue v) := fun r hr => by rw [ofValue_refs] at hr; cases hr

theorem RepP.one {I : Nat → Nat → Prop} {v : Value} {x : PV} (h : RepP w I v x) : isOne v = true := by cases h <;> rfl
theorem RepV.one {v : Value} {x : VV} (h : RepV w K H v x) (hc : isCell x = true) : isOne v = true := by
 cases h with
 | p _ _ h => exact RepP.one h
 | so _ _ _ _ h _ => exact RepP.one h
 | sw _ _ _ _ h _ => cases h; rfl
 | any => cases hc
 | agg => cases hc
 | tup => cases hc
 | _ => rfl
theorem cells_one {v : Value} (h : isOne v = true) : v.cells = #[v] := by cases v <;> first | rfl | cases h
theorem cells_rep {v : Value} {x : VV} (h : RepV w K H v x) (hc : (cellsOf x).all isCell = true) :
  v.cells.size = (cellsOf x).length ∧ ∀ (i : Nat) (u : Value) (c : VV), v.cells[i]? = some u → (cellsOf x)[i]? = some c → RepV w K H u c ∧ isOne u = true := by
 have gen : isCell x = true → cellsOf x = [x] → v.cells.size = (cellsOf x).length ∧ ∀ (i : Nat) (u : Value) (c : VV), v.cells[i]? = some u → (cellsOf x)[i]? = some c → RepV w K H u c ∧ isOne u = true := by
  intro h1 h2
  have ho := h.one h1
  rw [cells_one ho, h2]
  refine ⟨rfl, fun i u c a b => ?_⟩
  cases i with
  | zero => simp at a b; subst a b; exact ⟨h, ho⟩
  | succ i => simp at a
 cases h with
 | agg vs cs hs h1 h => exact ⟨hs, fun i u c a b => ⟨h i u c a b, h1 i u a⟩⟩
 | any v => simp [cellsOf, isCell] at hc
 | tup vs cs hs h => simp [cellsOf, isCell] at hc
 | _ => exact gen rfl rfl
theorem strip1_ok {v : Value} {x : VV} (h : RepV w K H v x) : RepV w K H v (strip1 x) := by
 cases h with
 | so v id k xs h ht => exact .p _ _ h
 | sf A k xs h => exact .p _ _ h
 | p v x h => exact .p v x h
 | any v => exact .any v
 | agg vs cs hs h1 h => exact .agg vs cs hs h1 h
 | tup vs cs hs h => exact .tup vs cs hs h
 | ptr id off b h hn => exact .ptr id off b h hn
 | ip cs b off f hi hw hr => exact .ip cs b off f hi hw hr
 | iv cs b off f hi hw hr h1 => exact .iv cs b off f hi hw hr h1
 | bf id off n k b c A h hn h2 hm hA hz => exact .bf id off n k b c A h hn h2 hm hA hz
 | mp id b h hn => exact .mp id b h hn
 | fn f us vs as bs hs ht h h' => exact .fn f us vs as bs hs ht h h'
 | sv A c k b off xs f hcc hm hk hA hi hw hr h1 => exact .sv A c k b off xs f hcc hm hk hA hi hw hr h1
 | sw v id k xs h ht => exact .sw v id k xs h ht
 | yl id b h hn => exact .yl id b h hn
theorem strip1_cl {n : Nat} {x : VV} (h : Cl n x) : Cl n (strip1 x) := by
 cases x <;> first | exact h | (intro r hr; simp [strip1, refs] at hr)
theorem cl_agg {n : Nat} {cs : List VV} : Cl n (.agg cs) ↔ ∀ c ∈ cs, Cl n c :=
 ⟨fun h c hc r hr => h r (by rw [refs]; exact mem_refsL.2 ⟨c, hc, hr⟩), fun h r hr => by rw [refs] at hr; obtain ⟨c, hc, hr⟩ := mem_refsL.1 hr; exact h c hc r hr⟩
theorem cl_tup {n : Nat} {cs : List VV} : Cl n (.tup cs) ↔ ∀ c ∈ cs, Cl n c :=
 ⟨fun h c hc r hr => h r (by rw [refs]; exact mem_refsL.2 ⟨c, hc, hr⟩), fun h r hr => by rw [refs] at hr; obtain ⟨c, hc, hr⟩ := mem_refsL.1 hr; exact h c hc r hr⟩
theorem cl_p (n : Nat) (x : PV) : Cl n (.p x) := fun r hr => by simp [refs] at hr
theorem cl_cells {n : Nat} {x : VV} (h : Cl n x) : ∀ c ∈ cellsOf x, Cl n c := by
 cases x <;> first | (intro c hc; simp [cellsOf] at hc; subst hc; exact h) | exact cl_agg.1 h

def OpOk (P : Program) (G : Ghost) (sem : Sem Next) (w : World) (K : Nat → Option Nat) (M : Mem) (v : VV) (M' : Mem) : Prop :=
 ∃ nx rv w' K', sem.run P w = .ok nx w' ∧ (nx = .value rv ∨ (nx = .skip ∧ rv = undef)) ∧ RepV w' K' M'.H rv v ∧ Cl M'.H.length v ∧ Ext w K M.H w' K' M'.H ∧ Inv G w' K' M'
theorem OpOk.same {sem : Sem Next} (hI : Inv G w K M) {v : VV} {rv : Value} (h : sem.run P w = .ok (.value rv) w) (hr : RepV w K M.H rv v) (hc : Cl M.H.length v) : OpOk P G sem w K M v M :=
 ⟨_, rv, w, K, h, .inl rfl, hr, hc, Ext.refl _ _ _, hI⟩

theorem run_isAgg' {t : Nat} {y : Ty} (h : TyOk P t y) : (isAgg t).run P w = .ok y.agg w := by
 obtain ⟨d, hd, ha⟩ := h.agg
 unfold isAgg
 rw [Sem.run_bind, run_underlying hd w]
 cases d <;> simp_all
theorem run_size' {t : Nat} {y : Ty} (h : TyOk P t y) : (sizeOf t).run P w = .ok y.size w := by
 obtain ⟨i, hi, hs, _⟩ := h.info
 simp [sizeOf, typeInfo, hi, hs]
theorem run_zero' {t : Nat} {y : Ty} (h : TyOk P t y) : (zeroValue t).run P w = .ok y.z w := by
 obtain ⟨i, hi, hs, hz⟩ := h.info
 simp [zeroValue, typeInfo, hi, hz]
theorem zero_cells {t : Nat} {y : Ty} (h : TyOk P t y) : y.z.cells = y.zero.toArray := by
 unfold Ty.z
 cases ha : y.agg with
 | true => rfl
 | false =>
  have h1 := h.flat ha
  have h2 := h.zlen
  rw [h1] at h2
  obtain ⟨z, hz⟩ := List.length_eq_one_iff.1 h2
  simp only [cond_false, hz, List.headD_cons]
  exact cells_one (h.one z (by simp [hz]))
theorem zero_rep {t : Nat} {y : Ty} (h : TyOk P t y) : ∀ (i : Nat) (u : Value) (c : VV), y.zero.toArray[i]? = some u → (y.zero.map ofValue)[i]? = some c → RepV w K H u c ∧ isOne u = true := by
 intro i u c a b
 simp only [List.getElem?_toArray] at a
 rw [List.getElem?_map, a] at b
 simp at b
 subst b
 exact ⟨ofValue_ok u, h.one u (List.mem_of_getElem? a)⟩
theorem run_loadAt' {t : Nat} {y : Ty} (h : TyOk P t y) (b off : Nat) (f : Nat → Value) (hc : ∀ j, j < y.size → w.cell? ⟨b, off + j, none⟩ = some (f j)) :
  (Instr.loadAt t (.pointer (some ⟨b, off, none⟩))).run P w = .ok (bif y.agg then .agg ((List.range y.size).map f).toArray else f 0) w := by
 simp only [Instr.loadAt, Instr.sureAddr, Sem.run_bind, Sem.run_pure, Result.andThen_ok, loadVar, run_isAgg' h]
 cases ha : y.agg with
 | true =>
  simp only [if_true, Sem.run_bind, run_size' h, Result.andThen_ok, Sem.run_pure, cond_true]
  rw [run_loadCells w ⟨b, off, none⟩ y.size f (fun j hj => by rw [add_none]; exact hc j hj)]
  simp
 | false =>
  have h0 := hc 0 (by rw [h.flat ha]; omega)
  simp only [Nat.add_zero] at h0
  simp [h0]

theorem load_agg {n : Nat} {f : Nat → Value} {cs : List VV} (hl : cs.length = n) (h : ∀ (j : Nat) (c : VV), cs[j]? = some c → RepV w K H (f j) c ∧ isOne (f j) = true) : RepV w K H (.agg ((List.range n).map f).toArray) (.agg cs) := by
 have hget : ∀ (i : Nat) (v : Value), (((List.range n).map f).toArray)[i]? = some v → i < n ∧ v = f i := by
  intro i v hv
  simp only [List.getElem?_toArray, List.getElem?_map] at hv
  rcases Nat.lt_or_ge i n with hlt | hge
  ·rw [List.getElem?_range hlt] at hv
   simp at hv
   exact ⟨hlt, hv.symm⟩
  ·rw [List.getElem?_eq_none (by simp; omega)] at hv
   cases hv
 refine .agg _ _ (by simp [hl]) (fun i v hv => ?_) fun i v c hv hcc => ?_
 ·obtain ⟨hlt, rfl⟩ := hget i v hv
  exact (h i (cs[i]'(by omega)) (List.getElem?_eq_getElem (by omega))).2
 ·obtain ⟨hlt, rfl⟩ := hget i v hv
  exact (h i c hcc).1

theorem vload_ok (hT : TabOk P T) (hI : Inv G w K M) {t : Nat} {a v : VV} {ra : Value} (h : vload T t a M = some v) (ha : RepV w K M.H ra a) (hc : Cl M.H.length a) :
  ∃ rv, (Instr.loadAt t ra).run P w = .ok rv w ∧ RepV w K M.H rv v ∧ Cl M.H.length v := by
 unfold vload at h
 cases hy : T.ty t with
 | none => rw [hy] at h; cases h
 | some y =>
  rw [hy] at h
  have hY := hT.ty t y hy
  simp only at h
  cases ha with
  | ptr id off b hK hn =>
   simp only at h
   cases ho : M.H[id]? with
   | none => rw [ho] at h; cases h
   | some o =>
    rw [ho] at h
    cases o with
    | obj cs =>
     simp only at h
     obtain ⟨vs, tt, hheap, hsz, hcell⟩ := hI.obj id _ ho _ hK
     have hcl := hI.content ho
     have hcell' : ∀ j, j < cs.length → w.cell? ⟨b, j, none⟩ = some (vs.getD j undef) := fun j hj => by
      simp only [World.cell?, hheap]
      simp [Array.getElem?_eq_getElem (show j < vs.size by omega)]
     cases hag : y.agg with
     | true =>
      rw [hag] at h
      simp only [cond_true] at h
      cases hble : Nat.ble (off + y.size) cs.length with
      | false => rw [hble] at h; cases h
      | true =>
       rw [hble] at h
       simp only [cond_true, Option.some.injEq] at h
       subst h
       have hfit : off + y.size ≤ cs.length := Nat.le_of_ble_eq_true hble
       refine ⟨_, run_loadAt' hY b off (fun j => vs.getD (off + j) undef) (fun j hj => hcell' (off + j) (by omega)), ?_, ?_⟩
       ·rw [hag]
        refine load_agg (by simp; omega) fun j c hj => ?_
        rw [List.getElem?_map] at hj
        obtain ⟨c0, h0, rfl⟩ := Option.map_eq_some_iff.1 hj
        rw [List.getElem?_take] at h0
        split at h0
        ·rw [List.getElem?_drop] at h0
         have hlt := (List.getElem?_eq_some_iff.1 h0).1
         have h2 := hcell (off + j) (vs.getD (off + j) undef) c0 (by simp [Array.getElem?_eq_getElem (show off + j < vs.size by omega)]) h0
         exact ⟨strip1_ok h2.1, h2.2⟩
        ·cases h0
       ·refine cl_agg.2 fun c hcc => ?_
        obtain ⟨c0, h0, rfl⟩ := List.mem_map.1 hcc
        exact strip1_cl (hcl c0 (List.mem_of_mem_drop (List.mem_of_mem_take h0)))
     | false =>
      rw [hag] at h
      simp only [cond_false] at h
      have hlt := (List.getElem?_eq_some_iff.1 h).1
      refine ⟨_, run_loadAt' hY b off (fun j => vs.getD (off + j) undef) (fun j hj => hcell' (off + j) (by rw [hY.flat hag] at hj; omega)), ?_, hcl v (List.mem_of_getElem? h)⟩
      rw [hag]
      simp only [cond_false, Nat.add_zero]
      exact (hcell off _ v (by simp [Array.getElem?_eq_getElem (show off < vs.size by omega)]) h).1
    | _ => cases h
  | ip cs b off f hi hw hr =>
   simp only at h
   cases hag : y.agg with
   | true =>
    rw [hag] at h
    simp only [cond_true] at h
    cases hble : Nat.ble y.size cs.length with
    | false => rw [hble] at h; cases h
    | true =>
     rw [hble] at h
     simp only [cond_true, Option.some.injEq] at h
     subst h
     have hfit : y.size ≤ cs.length := Nat.le_of_ble_eq_true hble
     refine ⟨_, run_loadAt' hY b off f (fun j hj => hw j _ (List.getElem?_eq_getElem (by omega))), ?_, ?_⟩
     ·rw [hag]
      refine load_agg (by simp; omega) fun j c hj => ?_
      rw [List.getElem?_map] at hj
      obtain ⟨c0, h0, rfl⟩ := Option.map_eq_some_iff.1 hj
      rw [List.getElem?_take] at h0
      split at h0
      ·exact ⟨.p _ _ (hr j c0 h0), (hr j c0 h0).one⟩
      ·cases h0
     ·refine cl_agg.2 fun c hcc => ?_
      obtain ⟨c0, h0, rfl⟩ := List.mem_map.1 hcc
      exact cl_p _ _
   | false =>
    rw [hag] at h
    simp only [cond_false] at h
    obtain ⟨c0, h0, rfl⟩ := Option.map_eq_some_iff.1 h
    refine ⟨_, run_loadAt' hY b off f (fun j hj => ?_), ?_, cl_p _ _⟩
    ·rw [hY.flat hag] at hj
     obtain rfl : j = 0 := by omega
     exact hw 0 c0 h0
    ·rw [hag]
     exact .p _ _ (hr 0 c0 h0)
  | iv cs b off f hi hw hr h1 =>
   simp only at h
   have hcl : ∀ c ∈ cs, Cl M.H.length c := fun c hcc r hr => hc r (by rw [refs]; exact mem_refsL.2 ⟨c, hcc, hr⟩)
   cases hag : y.agg with
   | true =>
    rw [hag] at h
    simp only [cond_true] at h
    cases hble : Nat.ble y.size cs.length with
    | false => rw [hble] at h; cases h
    | true =>
     rw [hble] at h
     simp only [cond_true, Option.some.injEq] at h
     subst h
     have hfit : y.size ≤ cs.length := Nat.le_of_ble_eq_true hble
     refine ⟨_, run_loadAt' hY b off f (fun j hj => hw j _ (List.getElem?_eq_getElem (by omega))), ?_, ?_⟩
     ·rw [hag]
      refine load_agg (by simp; omega) fun j c hj => ?_
      rw [List.getElem?_map] at hj
      obtain ⟨c0, h0, rfl⟩ := Option.map_eq_some_iff.1 hj
      rw [List.getElem?_take] at h0
      split at h0
      ·exact ⟨strip1_ok (hr j c0 h0), h1 j c0 h0⟩
      ·cases h0
     ·refine cl_agg.2 fun c hcc => ?_
      obtain ⟨c0, h0, rfl⟩ := List.mem_map.1 hcc
      exact strip1_cl (hcl c0 (List.mem_of_mem_take h0))
   | false =>
    rw [hag] at h
    simp only [cond_false] at h
    refine ⟨_, run_loadAt' hY b off f (fun j hj => ?_), ?_, hcl v (List.mem_of_getElem? h)⟩
    ·rw [hY.flat hag] at hj
     obtain rfl : j = 0 := by omega
     exact hw 0 v h
    ·rw [hag]
     exact hr 0 v h
  | _ => cases h
end
end Go.Proofs.YtnjgdlmddlinaaaDoor.Vm

/- A machine on values: its operations are true, part 2: stores and appends. -/
namespace Go.Proofs.YtnjgdlmddlinaaaDoor.Vm
open Go

def PW {α β : Type} (R : α → β → Prop) (as : List α) (bs : List β) : Prop := as.length = bs.length ∧ ∀ (i : Nat) (a : α) (b : β), as[i]? = some a → bs[i]? = some b → R a b
theorem PW.take {α β : Type} {R : α → β → Prop} {as : List α} {bs : List β} (h : PW R as bs) (n : Nat) : PW R (as.take n) (bs.take n) :=
 ⟨by simp [h.1], fun i a b ha hb => by
  rw [List.getElem?_take] at ha hb
  split at ha
  ·rename_i hi
   rw [if_pos hi] at hb
   exact h.2 i a b ha hb
  ·cases ha⟩
theorem PW.drop {α β : Type} {R : α → β → Prop} {as : List α} {bs : List β} (h : PW R as bs) (n : Nat) : PW R (as.drop n) (bs.drop n) :=
 ⟨by simp [h.1], fun i a b ha hb => by
  rw [List.getElem?_drop] at ha hb
  exact h.2 _ a b ha hb⟩
theorem PW.append {α β : Type} {R : α → β → Prop} {as as' : List α} {bs bs' : List β} (h : PW R as bs) (h' : PW R as' bs') : PW R (as ++ as') (bs ++ bs') :=
 ⟨by simp [h.1, h'.1], fun i a b ha hb => by
  rcases Nat.lt_or_ge i as.length with hl | hl
  ·rw [List.getElem?_append_left hl] at ha
   rw [List.getElem?_append_left (by rw [← h.1]; exact hl)] at hb
   exact h.2 i a b ha hb
  ·rw [List.getElem?_append_right hl] at ha
   rw [List.getElem?_append_right (by rw [← h.1]; exact hl), ← h.1] at hb
   exact h'.2 _ a b ha hb⟩
theorem PW.mono {α β : Type} {R R' : α → β → Prop} {as : List α} {bs : List β} (h : PW R as bs) (hr : ∀ a b, b ∈ bs → R a b → R' a b) : PW R' as bs := ⟨h.1, fun i a b ha hb => hr a b (List.mem_of_getElem? hb) (h.2 i a b ha hb)⟩
theorem PW.of_arr {β : Type} {R : Value → β → Prop} {vs : Array Value} {bs : List β} (hs : vs.size = bs.length) (h : ∀ (i : Nat) (a : Value) (b : β), vs[i]? = some a → bs[i]? = some b → R a b) : PW R vs.toList bs :=
 ⟨by simpa using hs, fun i a b ha hb => h i a b (by simpa using ha) hb⟩

theorem addLg_old {id : Nat} {rs : List Nat} {lg : List (Nat × Nat)} {e : Nat × Nat} (h : e ∈ lg) : e ∈ addLg id rs lg := by
 unfold addLg
 split
 ·exact h
 ·exact List.mem_append_left _ h
theorem addLg_new {id r : Nat} {rs : List Nat} {lg : List (Nat × Nat)} (h : r ∈ rs) (hl : id < r) : (id, r) ∈ addLg id rs lg := by
 cases hq : lg.any fun e => Nat.beq e.1 id && Nat.beq e.2 r with
 | true =>
  obtain ⟨e, he, h2⟩ := List.any_eq_true.1 hq
  rw [Bool.and_eq_true] at h2
  have h3 : e = (id, r) := Prod.ext (Nat.eq_of_beq_eq_true h2.1) (Nat.eq_of_beq_eq_true h2.2)
  rw [h3] at he
  exact addLg_old he
 | false =>
  unfold addLg
  have hm : r ∈ rs.filter (fun r => Nat.blt id r && !(lg.any fun e => Nat.beq e.1 id && Nat.beq e.2 r)) := List.mem_filter.2 ⟨h, by rw [hq, Bool.not_false, Bool.and_true, Nat.blt_eq]; exact hl⟩
  split
  ·rename_i he
   rw [he] at hm
   cases hm
  ·exact List.mem_append_right _ (List.mem_map.2 ⟨r, hm, rfl⟩)
theorem addLg_mem {id : Nat} {rs : List Nat} {lg : List (Nat × Nat)} {e : Nat × Nat} (h : e ∈ addLg id rs lg) : e ∈ lg ∨ (e.1 = id ∧ e.2 ∈ rs) := by
 unfold addLg at h
 split at h
 ·exact .inl h
 ·rcases List.mem_append.1 h with h | h
  ·exact .inl h
  ·obtain ⟨r, hr, rfl⟩ := List.mem_map.1 h
   exact .inr ⟨rfl, (List.mem_filter.1 hr).1⟩

section
variable {P : Program} {T : Tab} {G : Ghost} {w : World} {K : Nat → Option Nat} {M M' : Mem} {H : List VObj}

theorem setRow_calm (w : World) (g : Nat) (cs : Array Value) : Calm w (w.setRow g cs) := ⟨rfl, rfl, rfl, by simp [World.setRow]⟩
theorem refs_cells {x c : VV} (h : c ∈ cellsOf x) {r : Nat} (hr : r ∈ refs c) : r ∈ refs x := by
 cases x <;> first
  | (simp [cellsOf] at h; subst h; exact hr)
  | (rw [refs]; exact mem_refsL.2 ⟨c, h, hr⟩)

theorem vstore_ok (hT : TabOk P T) (hI : Inv G w K M) {t : Nat} {a v : VV} {ra rv : Value} (h : vstore T t a v M = some M') (ha : RepV w K M.H ra a) (hv : RepV w K M.H rv v) (hcv : Cl M.H.length v) :
  ∃ w', (Instr.storeAt t ra rv).run P w = .ok () w' ∧ Ext w K M.H w' K M'.H ∧ Inv G w' K M' := by
 unfold vstore at h
 cases hy : T.ty t with
 | none => rw [hy] at h; cases h
 | some y =>
  rw [hy] at h
  have hY := hT.ty t y hy
  cases ha with
  | ptr id off b hK hn =>
   simp only at h
   cases ho : M.H[id]? with
   | none => rw [ho] at h; cases h
   | some o =>
    rw [ho] at h
    cases o with
    | obj cs =>
     simp only at h
     cases hb : (Nat.beq (cellsOf v).length y.size && Nat.ble (off + y.size) cs.length && (cellsOf v).all isCell) with
     | false => rw [hb] at h; cases h
     | true =>
      rw [hb] at h
      simp only [cond_true, Option.some.injEq] at h
      subst h
      simp only [Bool.and_eq_true] at hb
      obtain ⟨⟨h1, h2⟩, h3⟩ := hb
      have hlen : (cellsOf v).length = y.size := Nat.eq_of_beq_eq_true h1
      have hfit : off + y.size ≤ cs.length := Nat.le_of_ble_eq_true h2
      obtain ⟨vs, tt, hheap, hsz, hcell⟩ := hI.obj id _ ho _ hK
      obtain ⟨hrs, hrc⟩ := cells_rep hv h3
      have h1' : ∀ u ∈ rv.cells.toList, u.oneCell' = true := fun u hu => by
       obtain ⟨i, hi, rfl⟩ := List.getElem_of_mem hu
       rw [← isOne_eq]
       exact (hrc i _ ((cellsOf v)[i]'(by simp at hi; omega)) (by simp at hi ⊢) (List.getElem?_eq_getElem _)).2
      have hst := run_storeCells_at P b off tt rv.cells.toList 0 vs w hheap (by simp; omega) h1'
      have hrun : (Instr.storeAt t (.pointer (some ⟨b, off, none⟩)) rv).run P w = .ok () (w.setRow b (vs.toList.take (off + 0) ++ rv.cells.toList ++ vs.toList.drop (off + 0 + rv.cells.toList.length)).toArray) := by
       simp only [Instr.storeAt, Instr.sureAddr, Sem.run_bind, Sem.run_pure, Result.andThen_ok, storeVar, run_size' hY]
       rw [if_neg (by rw [hrs, hlen]; simp)]
       exact hst
      have hvl : rv.cells.toList.length = (cellsOf v).length := by simp [hrs]
      have hPW : ∀ (i : Nat) (u : Value) (c : VV), (vs.toList.take off ++ rv.cells.toList ++ vs.toList.drop (off + rv.cells.toList.length))[i]? = some u → (splice cs off (cellsOf v))[i]? = some c → RepV w K M.H u c ∧ isOne u = true := by
       intro i u c hu hc
       unfold splice at hc
       rcases Nat.lt_or_ge i off with h1 | h1
       ·rw [List.append_assoc, List.getElem?_append_left (by simp; omega), List.getElem?_take, if_pos h1] at hu hc
        exact hcell i u c (by simpa using hu) hc
       ·rcases Nat.lt_or_ge i (off + (cellsOf v).length) with h2 | h2
        ·have t1 : (vs.toList.take off).length = off := by rw [List.length_take, Array.length_toList]; omega
         have t2 : (cs.take off).length = off := by rw [List.length_take]; omega
         rw [List.append_assoc, List.getElem?_append_right (by omega), t1, List.getElem?_append_left (by omega)] at hu
         rw [List.append_assoc, List.getElem?_append_right (by omega), t2, List.getElem?_append_left (by omega)] at hc
         exact hrc _ u c (by simpa using hu) hc
        ·have t1 : (vs.toList.take off ++ rv.cells.toList).length = off + (cellsOf v).length := by rw [List.length_append, List.length_take, Array.length_toList, hvl]; omega
         have t2 : (cs.take off ++ cellsOf v).length = off + (cellsOf v).length := by rw [List.length_append, List.length_take]; omega
         rw [List.getElem?_append_right (by omega), t1, hvl, List.getElem?_drop, show off + (cellsOf v).length + (i - (off + (cellsOf v).length)) = i by omega] at hu
         rw [List.getElem?_append_right (by omega), t2, List.getElem?_drop, show off + (cellsOf v).length + (i - (off + (cellsOf v).length)) = i by omega] at hc
         exact hcell i u c (by simpa using hu) hc
      have hsl : (splice cs off (cellsOf v)).length ≤ (vs.toList.take off ++ rv.cells.toList ++ vs.toList.drop (off + rv.cells.toList.length)).length := by
       unfold splice
       simp only [List.length_append, List.length_take, List.length_drop, hvl, Array.length_toList]
       omega
      simp only [Nat.add_zero] at hrun
      refine ⟨_, hrun, ?_⟩
      refine step_set hI (setRow_calm _ _ _) ho hK (fun _ _ e => VObj.noConfusion e) (fun e => e) (fun e => VObj.noConfusion e) (fun _ e => VObj.noConfusion e) (fun _ _ e => VObj.noConfusion e) (fun b' _ hne => setRow_other w b b' _ hne) (fun v1 t1 z1 e1 => ⟨_, setRow_heap w b v1 _ t1 _ e1, (by
       rw [hheap] at e1
       cases e1
       simp only [List.size_toArray, List.length_append, List.length_take, List.length_drop, Array.length_toList]
       omega)⟩) _ ?_ (fun e he => addLg_old he) ?_ ?_
      ·intro c hc r hr
       have hmem : c ∈ cs ∨ c ∈ cellsOf v := by
        simp only [contents, splice, List.mem_append] at hc
        rcases hc with (hc | hc) | hc
        ·exact .inl (List.mem_of_mem_take hc)
        ·exact .inr hc
        ·exact .inl (List.mem_of_mem_drop hc)
       rcases hmem with hc | hc
       ·obtain ⟨a1, a2⟩ := hI.cl id _ ho c hc r hr
        exact ⟨a1, a2.imp_right addLg_old⟩
       ·have hrv := refs_cells hc hr
        refine ⟨hcv r hrv, ?_⟩
        rcases Nat.lt_or_ge id r with hlt | hge
        ·exact .inr (addLg_new hrv hlt)
        ·exact .inl hge
      ·intro e he
       rcases addLg_mem he with h | ⟨h1, h2⟩
       ·exact hI.lg e h
       ·exact ⟨by rw [h1]; exact (List.getElem?_eq_some_iff.1 ho).1, hcv _ h2⟩
      ·intro hE b1 hb1
       cases hb1
       refine ⟨_, tt, setRow_heap w b vs _ tt _ hheap, ?_, fun i u c hu hc => ?_⟩
       ·simpa using hsl
       ·obtain ⟨r1, r2⟩ := hPW i u c (by simpa using hu) hc
        have hcl : Cl M.H.length c := by
         have hmem := List.mem_of_getElem? hc
         simp only [splice, List.mem_append] at hmem
         rcases hmem with (hm | hm) | hm
         ·exact hI.content ho c (List.mem_of_mem_take hm)
         ·exact cl_cells hcv c hm
         ·exact hI.content ho c (List.mem_of_mem_drop hm)
        exact ⟨r1.ext hE hcl, r2⟩
    | _ => cases h
  | _ => cases h

/-! ### appends -/
theorem RepP.conv {I : Nat → Nat → Prop} {v : Value} {k k' : Nat} {xs : List (List PV)} (h : RepP w I v (.sl k xs)) (hf : fits k k' xs = true) : RepP w I v (.sl k' xs) := by
 unfold fits at hf
 simp only [Bool.or_eq_true] at hf
 rcases hf with hf | hf
 ·have := Nat.eq_of_beq_eq_true hf
  subst this
  exact h
 ·have : xs = [] := by simpa using hf
  subst this
  cases h with
  | sl A c _ b off _ f hc hm hk hA hi hw hr => exact .sl A c k' b off [] f hc hm (by simp) (by simp) (by simp) (by simp) (by simp)
theorem sl_flat {I : Nat → Nat → Prop} {v : Value} {k : Nat} {xs : List (List PV)} (h : RepP w I v (.sl k xs)) (hk : 0 < k) :
  ∃ (A : Option Addr) (c : Nat) (news : List Value), v = .slice A xs.length c ∧ xs.length ≤ c ∧ c ≤ maxLen ∧ news.length = xs.length * k ∧
   (xs ≠ [] → ∃ b off, A = some ⟨b, off, none⟩ ∧ ∀ (j : Nat) (u : Value), news[j]? = some u → w.cell? ⟨b, off + j, none⟩ = some u) ∧ (∀ u ∈ news, isOne u = true) ∧ (∀ x ∈ xs, x.length = k) ∧
   (∀ (i : Nat) (x : List PV) (j : Nat) (u : PV), xs[i]? = some x → x[j]? = some u → j < k ∧ ∃ r, news[i * k + j]? = some r ∧ RepP w I r u) := by
 cases h with
 | sl A c _ b off _ f hc hm hkk hA hi hw hr =>
  have hat : ∀ j, j < xs.length * k → ∃ x u, xs[j / k]? = some x ∧ x[j % k]? = some u := fun j hj => by
   have hd : j / k < xs.length := Nat.div_lt_of_lt_mul (by rw [Nat.mul_comm]; exact hj)
   have hx := hkk xs[j / k] (List.getElem_mem hd)
   have hmm := Nat.mod_lt j hk
   exact ⟨_, _, List.getElem?_eq_getElem hd, List.getElem?_eq_getElem (by rw [hx]; exact hmm)⟩
  refine ⟨A, c, (List.range (xs.length * k)).map fun j => f (j / k) (j % k), rfl, hc, hm, by simp, fun hne => ⟨b, off, hA hne, fun j u hj => ?_⟩, fun u hu => ?_, hkk, fun i x j u hx hu => ?_⟩
  ·rw [List.getElem?_map] at hj
   obtain ⟨j', h1, rfl⟩ := Option.map_eq_some_iff.1 hj
   obtain ⟨hlt, he⟩ := List.getElem?_eq_some_iff.1 h1
   simp at hlt he
   subst he
   obtain ⟨x, u, h2, h3⟩ := hat j hlt
   have := hw _ x _ u h2 h3
   rwa [Nat.add_assoc, Nat.mul_comm, Nat.div_add_mod] at this
  ·obtain ⟨j, hj, rfl⟩ := List.mem_map.1 hu
   obtain ⟨x, u, h2, h3⟩ := hat j (by simpa using hj)
   exact (hr _ x _ u h2 h3).one
  ·have hx1 := hkk x (List.mem_of_getElem? hx)
   have hj := (List.getElem?_eq_some_iff.1 hu).1
   have hi' := (List.getElem?_eq_some_iff.1 hx).1
   have hjk : j < k := by omega
   have hlt : i * k + j < xs.length * k := by
    have : (i + 1) * k ≤ xs.length * k := Nat.mul_le_mul_right _ hi'
    rw [Nat.add_mul] at this
    omega
   refine ⟨hjk, f i j, ?_, hr i x j u hx hu⟩
   rw [List.getElem?_map, List.getElem?_range hlt]
   simp only [Option.map_some]
   have e1 : (i * k + j) / k = i := by rw [Nat.mul_comm, Nat.mul_add_div hk, Nat.div_eq_of_lt hjk]; rfl
   have e2 : (i * k + j) % k = j := by rw [Nat.mul_comm, Nat.mul_add_mod, Nat.mod_eq_of_lt hjk]
   rw [e1, e2]
theorem RepP.row {I : Nat → Nat → Prop} {g k cap : Nat} {vs : Array Value} {t : TypeId} {xs : List (List PV)} {all : List Value} (hk : 0 < k) (hg : w.heap[g]? = some (.cells vs t (0, 0))) (hlen : ∀ x ∈ xs, x.length = k)
  (hcap : xs.length ≤ cap) (hmax : cap ≤ maxLen) (hI : ∀ o, o < xs.length * k → I g o) (hall : ∀ o, o < xs.length * k → vs[o]? = all[o]?)
  (hr : ∀ (i : Nat) (x : List PV) (j : Nat) (u : PV), xs[i]? = some x → x[j]? = some u → j < k ∧ ∃ r, all[i * k + j]? = some r ∧ RepP w I r u) : RepP w I (.slice (some ⟨g, 0, none⟩) xs.length cap) (.sl k xs) := by
 have hlt : ∀ (i : Nat) (x : List PV) (j : Nat) (u : PV), xs[i]? = some x → x[j]? = some u → i * k + j < xs.length * k := fun i x j u hx hu => by
  have h1 := (List.getElem?_eq_some_iff.1 hx).1
  have h2 := (hr i x j u hx hu).1
  have : (i + 1) * k ≤ xs.length * k := Nat.mul_le_mul_right _ h1
  rw [Nat.add_mul] at this
  omega
 refine .sl (some ⟨g, 0, none⟩) cap k g 0 xs (fun i j => all.getD (i * k + j) undef) hcap hmax hlen (fun _ => rfl) (fun i x j u hx hu => ?_) (fun i x j u hx hu => ?_) fun i x j u hx hu => ?_
 ·rw [Nat.zero_add]
  exact hI _ (hlt i x j u hx hu)
 ·obtain ⟨_, r, h1, h2⟩ := hr i x j u hx hu
  rw [Nat.zero_add]
  simp only [World.cell?, hg, List.getD, h1, Option.getD_some]
  rw [hall _ (hlt i x j u hx hu), h1]
  rfl
 ·obtain ⟨_, r, h1, h2⟩ := hr i x j u hx hu
  simp only [List.getD, h1, Option.getD_some]
  exact h2
theorem two_rows {R : Value → PV → Prop} {k : Nat} {xs ys : List (List PV)} {olds news : List Value} (hx : ∀ x ∈ xs, x.length = k) (ho : olds.length = xs.length * k)
  (h1 : ∀ (i : Nat) (x : List PV) (j : Nat) (u : PV), xs[i]? = some x → x[j]? = some u → j < k ∧ ∃ r, olds[i * k + j]? = some r ∧ R r u)
  (h2 : ∀ (i : Nat) (x : List PV) (j : Nat) (u : PV), ys[i]? = some x → x[j]? = some u → j < k ∧ ∃ r, news[i * k + j]? = some r ∧ R r u) :
  ∀ (i : Nat) (x : List PV) (j : Nat) (u : PV), (xs ++ ys)[i]? = some x → x[j]? = some u → j < k ∧ ∃ r, (olds ++ news)[i * k + j]? = some r ∧ R r u := by
 intro i x j u hxx hu
 rcases Nat.lt_or_ge i xs.length with hl | hl
 ·rw [List.getElem?_append_left hl] at hxx
  obtain ⟨h, r, h3, h4⟩ := h1 i x j u hxx hu
  refine ⟨h, r, ?_, h4⟩
  rw [List.getElem?_append_left]
  ·exact h3
  ·exact (List.getElem?_eq_some_iff.1 h3).1
 ·rw [List.getElem?_append_right hl] at hxx
  obtain ⟨h, r, h3, h4⟩ := h2 _ x j u hxx hu
  refine ⟨h, r, ?_, h4⟩
  have e : i * k + j = olds.length + ((i - xs.length) * k + j) := by
   rw [ho, Nat.sub_mul]
   have : xs.length * k ≤ i * k := Nat.mul_le_mul_right _ hl
   omega
  rw [e, List.getElem?_append_right (by omega), Nat.add_sub_cancel_left]
  exact h3

theorem run_room {t ty e g n c m c2 k : Nat} {tt : TypeId} {cur : Array Value} {ad : Addr} {news : List Value} {i : TypeInfo} (ht : P.underlying t = some (.slice e)) (hi : P.info? e = some i) (hik : i.size = k)
  (hg : w.heap[g]? = some (.cells cur tt (0, 0))) (hl : news.length = m * k) (hnews : ∀ (j : Nat) (u : Value), news[j]? = some u → w.cell? (ad.add j) = some u) (h1 : ∀ u ∈ news, isOne u = true)
  (hroom : n + m ≤ c) (hfit : n * k + news.length ≤ cur.size) :
  (Builtin.append_ #[t, t] ty #[.slice (some ⟨g, 0, none⟩) n c, .slice (some ad) m c2]).run P w =
   .ok (.slice (some ⟨g, 0, none⟩) (n + m) c) (w.setRow g (cur.toList.take (n * k) ++ news ++ cur.toList.drop (n * k + news.length)).toArray) := by
 have hf := run_loadCells_list (P := P) w ad news hnews
 rw [hl] at hf
 have hst := run_storeCells_at P g (n * k) tt news 0 cur w hg (by simpa using hfit) (fun v hv => by rw [← isOne_eq]; exact h1 v hv)
 simp only [Nat.add_zero] at hst
 have hadd : (⟨g, 0, none⟩ : Addr).add (n * k) = ⟨g, n * k, none⟩ := by rw [add_none]; simp
 simp [Builtin.append_, run_underlying ht, sizeOf, typeInfo, hi, hik, Builtin.lenOf, Builtin.firstCells, hroom, hf, hadd, hst]

theorem run_grow {I : Nat → Nat → Prop} {t ty e ke be : Nat} {xs ys : List (List PV)} {A : Option Addr} {c : Nat} {rx : Value} (hd : TdOk P t (.slice e ke be)) (hs : RepP w I (.slice A xs.length c) (.sl ke xs)) (hx : RepP w I rx (.sl ke ys))
  (hA : A = none → xs.length = 0 ∧ c = 0) (hys : ys ≠ []) (hc : c < xs.length + ys.length) (hb : (xs.length + ys.length) * be ≤ 140737488355328) :
  ∃ cap vs, (Builtin.append_ #[t, t] ty #[.slice A xs.length c, rx]).run P w = .ok (.slice (some ⟨w.heap.size, 0, none⟩) (xs.length + ys.length) cap) (w.drew.alloc (.cells vs e)) ∧
   xs.length + ys.length ≤ cap ∧ cap ≤ maxLen ∧ vs.size = cap * ke ∧ (∀ x ∈ xs ++ ys, x.length = ke) ∧
   (∀ (i : Nat) (x : List PV) (j : Nat) (u : PV), (xs ++ ys)[i]? = some x → x[j]? = some u → j < ke ∧ ∃ r, vs.toList[i * ke + j]? = some r ∧ RepP w I r u) := by
 obtain ⟨hu, i, z, hi, hik, hib, hz, hzs, hk, hbe⟩ := hd
 obtain ⟨A1, c1, olds, e1, o1, o2, o3, o4, o5, o6, o7⟩ := sl_flat hs hk
 injection e1 with e1 e2 e3
 subst e1 e3
 obtain ⟨A2, c2, news, rfl, n1, n2, n3, n4, n5, n6, n7⟩ := sl_flat hx hk
 obtain ⟨b2, f2, rfl, m4⟩ := n4 hys
 have hlen : xs.length + ys.length ≤ 140737488355328 := Nat.le_trans (Nat.le_mul_of_pos_right _ hbe) hb
 have hpos : 0 < ys.length := by
  cases ys with
  | nil => exact absurd rfl hys
  | cons a l => simp
 have hall : ∀ x ∈ xs ++ ys, x.length = ke := fun x hx => by
  rcases List.mem_append.1 hx with h | h
  ·exact o6 x h
  ·exact n6 x h
 have hrows := two_rows (R := RepP w I) o6 o3 o7 n7
 have hnews : ∀ (j : Nat) (v : Value), news[j]? = some v → w.cell? ((⟨b2, f2, none⟩ : Addr).add j) = some v := fun j v hv => by rw [add_none]; exact m4 j v hv
 have key : ∀ rest : Array Value, ∀ (i : Nat) (x : List PV) (j : Nat) (u : PV), (xs ++ ys)[i]? = some x → x[j]? = some u → j < ke ∧ ∃ r, (olds.toArray ++ news.toArray ++ rest).toList[i * ke + j]? = some r ∧ RepP w I r u := by
  intro rest i x j u h1 h2
  obtain ⟨a1, r, a2, a3⟩ := hrows i x j u h1 h2
  refine ⟨a1, r, ?_, a3⟩
  simp only [Array.toList_append]
  rw [List.getElem?_append_left (List.getElem?_eq_some_iff.1 a2).1]
  exact a2
 have hcapm : ∀ old, grownCap w (xs.length + ys.length) old e ≤ maxLen := fun old => grownCap_le_maxLen w _ old e (by unfold maxLen; omega)
 have hcapg : ∀ old, xs.length + ys.length ≤ grownCap w (xs.length + ys.length) old e := fun old => grownCap_ge w _ old e
 have hsize : ∀ old, (olds.toArray ++ news.toArray ++ Builtin.zeroCells z.cells (grownCap w (xs.length + ys.length) old e - (xs.length + ys.length))).size = grownCap w (xs.length + ys.length) old e * ke := fun old => by
  have := hcapg old
  simp only [Array.size_append, List.size_toArray, size_zeroCells, hzs, o3, n3, ← Nat.add_mul]
  congr 1
  omega
 rcases A with _ | ad
 ·obtain ⟨h0, rfl⟩ := hA rfl
  have hx0 : xs = [] := List.eq_nil_of_length_eq_zero h0
  subst hx0
  have ho : olds = [] := List.eq_nil_of_length_eq_zero (by simpa using o3)
  subst ho
  have hr := run_append_nil (P := P) w t ty e i z hu hi hz ⟨b2, f2, none⟩ ys.length c2 news (by rw [hik]; exact n3) hnews hpos (by omega) (by rw [hib]; simp at hb; omega)
  have h1 := hcapg 0
  have h2 := hcapm 0
  have h3 := hsize 0
  have h4 := key (Builtin.zeroCells z.cells (grownCap w (([] : List (List PV)).length + ys.length) 0 e - (([] : List (List PV)).length + ys.length)))
  simp only [List.length_nil, Nat.zero_add] at h1 h2 h3 h4 hr ⊢
  simp only [Array.empty_append] at h3 h4
  exact ⟨_, _, hr, h1, h2, h3, hall, h4⟩
 ·have hr := run_append_grow (P := P) w t ty e i z hu hi hz ad xs.length c olds (by rw [hik]; exact o3) (fun j v hv => by
    have hne : xs ≠ [] := by
     rintro rfl
     have : olds = [] := List.eq_nil_of_length_eq_zero (by simpa using o3)
     subst this
     simp at hv
    obtain ⟨b, off, hb, hcell⟩ := o4 hne
    cases hb
    rw [add_none]
    exact hcell j v hv) ⟨b2, f2, none⟩ ys.length c2 news (by rw [hik]; exact n3) hnews hc (by omega) (by rw [hib]; exact growslice_fits hc hb)
  exact ⟨_, _, hr, hcapg c, hcapm c, hsize c, hall, key _⟩
end
end Go.Proofs.YtnjgdlmddlinaaaDoor.Vm
