/- A part of the proofs about the chapter of the doors; it states no condition of its own. -/
import Derived.Test.YtmagiabapakhcaaB01
set_option linter.unusedVariables false
set_option linter.unusedSimpArgs false
/- A machine on values: what values stand for in memory, and what stays so. -/
namespace Go.Proofs.Ytmagiabapakhcaa.Vm
open Go

def isOne : Value → Bool
  | .agg _ | .tuple _ => false
  | _ => true
/-- an object that nothing is written to by -/
def Fz : VObj → Prop
  | .dead | .gone => True
  | _ => False
/-- cell o of block b is never written again -/
def Im (K : Nat → Option Nat) (H : List VObj) (b o : Nat) : Prop := ∀ i ob, H[i]? = some ob → K i = some b → Fz ob ∨ ∃ m k, ob = .clm m k ∧ o < m * k
/-- blocks of cells keep their sizes -/
def Szp (w w' : World) : Prop := ∀ (b : Nat) (vs : Array Value) (t : TypeId) (z : Nat × Nat), w.heap[b]? = some (.cells vs t z) → ∃ vs', w'.heap[b]? = some (.cells vs' t z) ∧ vs'.size = vs.size
theorem Szp.refl (w : World) : Szp w w := fun _ vs _ _ h => ⟨vs, h, rfl⟩
theorem Szp.trans {w w' w'' : World} (h : Szp w w') (h' : Szp w' w'') : Szp w w'' := fun b vs t z e => by
  obtain ⟨v1, e1, s1⟩ := h b vs t z e
  obtain ⟨v2, e2, s2⟩ := h' b v1 t z e1
  exact ⟨v2, e2, s2.trans s1⟩
theorem Szp.of_old {w w' : World} (hb : ∀ b, b < w.heap.size → w'.heap[b]? = w.heap[b]?) : Szp w w' := fun b vs t z e =>
  ⟨vs, (hb b (Array.getElem?_eq_some_iff.1 e).1).trans e, rfl⟩
theorem Szp.of_one {w w' : World} {b0 : Nat} (hb : ∀ b, b < w.heap.size → b ≠ b0 → w'.heap[b]? = w.heap[b]?) (h0 : ∀ (vs : Array Value) (t : TypeId) (z : Nat × Nat), w.heap[b0]? = some (.cells vs t z) → ∃ vs', w'.heap[b0]? = some (.cells vs' t z) ∧ vs'.size = vs.size) : Szp w w' := fun b vs t z e => by
  by_cases h : b = b0
  · subst h
    exact h0 vs t z e
  · exact ⟨vs, (hb b (Array.getElem?_eq_some_iff.1 e).1 h).trans e, rfl⟩
/-- a block has room for so many cells -/
def Cap (w : World) (b x : Nat) : Prop := ∃ vs t, w.heap[b]? = some (.cells vs t (0, 0)) ∧ x ≤ vs.size
theorem Cap.sz {w w' : World} {b x : Nat} (h : Cap w b x) (hz : Szp w w') : Cap w' b x := by
  obtain ⟨vs, t, e, hx⟩ := h
  obtain ⟨v2, e2, s2⟩ := hz b vs t _ e
  exact ⟨v2, t, e2, by omega⟩

inductive RepP (w : World) (I : Nat → Nat → Prop) : Value → PV → Prop
  | int (k : IntKind) (n : Int) : RepP w I (.int k n) (.int k n)
  | bool (b : Bool) : RepP w I (.bool b) (.bool b)
  | str (s : ByteArray) : RepP w I (.string s) (.str s)
  | nilp : RepP w I (.pointer none) .nilp
  | nilm : RepP w I (.map none) .nilm
  | nilf : RepP w I .nilFunc .nilf
  | sl (A : Option Addr) (c k b off : Nat) (xs : List (List PV)) (f : Nat → Nat → Value) (hc : xs.length ≤ c) (hm : c ≤ maxLen) (hk : ∀ x ∈ xs, x.length = k) (hA : xs ≠ [] → A = some ⟨b, off, none⟩)
      (hi : ∀ i x j u, xs[i]? = some x → x[j]? = some u → I b (off + i * k + j))
      (hw : ∀ i x j u, xs[i]? = some x → x[j]? = some u → w.cell? ⟨b, off + i * k + j, none⟩ = some (f i j))
      (hr : ∀ i x j u, xs[i]? = some x → x[j]? = some u → RepP w I (f i j) u) : RepP w I (.slice A xs.length c) (.sl k xs)

/-- what is known of a slice value that bears a token -/
def TI (w : World) (K : Nat → Option Nat) (H : List VObj) (id k : Nat) (v : Value) (n : Nat) : Prop :=
  ∀ m k', H[id]? = some (.clm m k') → n ≤ m ∧ (m = n → k' = k ∧ ((∃ b c vs t, K id = some b ∧ v = .slice (some ⟨b, 0, none⟩) n c ∧ w.heap[b]? = some (.cells vs t (0, 0)) ∧ c * k ≤ vs.size) ∨ (K id = none ∧ n = 0 ∧ ∃ A, v = .slice A n n)))

inductive RepV (w : World) (K : Nat → Option Nat) (H : List VObj) : Value → VV → Prop
  | p (v : Value) (x : PV) (h : RepP w (Im K H) v x) : RepV w K H v (.p x)
  | any (v : Value) : RepV w K H v .any
  | agg (vs : Array Value) (cs : List VV) (hs : vs.size = cs.length) (h1 : ∀ (i : Nat) (v : Value), vs[i]? = some v → isOne v = true) (h : ∀ (i : Nat) (v : Value) (c : VV), vs[i]? = some v → cs[i]? = some c → RepV w K H v c) : RepV w K H (.agg vs) (.agg cs)
  | tup (vs : Array Value) (cs : List VV) (hs : vs.size = cs.length) (h : ∀ (i : Nat) (v : Value) (c : VV), vs[i]? = some v → cs[i]? = some c → RepV w K H v c) : RepV w K H (.tuple vs) (.tup cs)
  | so (v : Value) (id k : Nat) (xs : List (List PV)) (h : RepP w (Im K H) v (.sl k xs)) (ht : TI w K H id k v xs.length) : RepV w K H v (.so id k xs)
  | sf (A : Option Addr) (k : Nat) (xs : List (List PV)) (h : RepP w (Im K H) (.slice A xs.length xs.length) (.sl k xs)) : RepV w K H (.slice A xs.length xs.length) (.sf k xs)
  | ptr (id off b : Nat) (h : K id = some b) (hn : ∀ m k, H[id]? ≠ some (.clm m k)) : RepV w K H (.pointer (some ⟨b, off, none⟩)) (.ptr id off)
  | ip (cs : List PV) (b off : Nat) (f : Nat → Value) (hi : ∀ j u, cs[j]? = some u → Im K H b (off + j)) (hw : ∀ j u, cs[j]? = some u → w.cell? ⟨b, off + j, none⟩ = some (f j))
      (hr : ∀ j u, cs[j]? = some u → RepP w (Im K H) (f j) u) : RepV w K H (.pointer (some ⟨b, off, none⟩)) (.ip cs)
  | iv (cs : List VV) (b off : Nat) (f : Nat → Value) (hi : ∀ j u, cs[j]? = some u → Im K H b (off + j)) (hw : ∀ j u, cs[j]? = some u → w.cell? ⟨b, off + j, none⟩ = some (f j))
      (hr : ∀ j u, cs[j]? = some u → RepV w K H (f j) u) (h1 : ∀ j u, cs[j]? = some u → isOne (f j) = true) : RepV w K H (.pointer (some ⟨b, off, none⟩)) (.iv cs)
  | bf (id off n k b c : Nat) (A : Option Addr) (h : n ≠ 0 → K id = some b) (hn : ∀ m k, H[id]? ≠ some (.clm m k)) (hc : n ≤ c) (hm : c ≤ maxLen) (hA : n ≠ 0 → A = some ⟨b, off, none⟩) (hz : n ≠ 0 → Cap w b (off + c * k)) : RepV w K H (.slice A n c) (.bf id off n k)
  | mp (id b : Nat) (h : K id = some b) (hn : ∀ m k, H[id]? ≠ some (.clm m k)) : RepV w K H (.map (some b)) (.mp id)
  | fn (f : Fn) (us vs : Array Value) (as bs : List VV) (hs : us.size = as.length) (ht : vs.size = bs.length) (h : ∀ (i : Nat) (v : Value) (c : VV), us[i]? = some v → as[i]? = some c → RepV w K H v c)
      (h' : ∀ (i : Nat) (v : Value) (c : VV), vs[i]? = some v → bs[i]? = some c → RepV w K H v c) : RepV w K H (.func f us vs) (.fn f as bs)
  | sv (A : Option Addr) (c k b off : Nat) (xs : List (List VV)) (f : Nat → Nat → Value) (hc : xs.length ≤ c) (hm : c ≤ maxLen) (hk : ∀ x ∈ xs, x.length = k) (hA : xs ≠ [] → A = some ⟨b, off, none⟩)
      (hi : ∀ i x j u, xs[i]? = some x → x[j]? = some u → Im K H b (off + i * k + j))
      (hw : ∀ i x j u, xs[i]? = some x → x[j]? = some u → w.cell? ⟨b, off + i * k + j, none⟩ = some (f i j))
      (hr : ∀ i x j u, xs[i]? = some x → x[j]? = some u → RepV w K H (f i j) u) (h1 : ∀ i x j u, xs[i]? = some x → x[j]? = some u → isOne (f i j) = true) : RepV w K H (.slice A xs.length c) (.sv k xs)
  | sw (v : Value) (id k : Nat) (xs : List (List VV)) (h : RepV w K H v (.sv k xs)) (ht : TI w K H id k v xs.length) : RepV w K H v (.sw id k xs)
  | yl (id b : Nat) (h : K id = some b) (hn : ∀ m k, H[id]? ≠ some (.clm m k)) : RepV w K H (.func (.yield b) #[] #[]) (.yl id)

/-- an object, before and after -/
def ObjLe (w : World) (K : Nat → Option Nat) (w' : World) (K' : Nat → Option Nat) (i : Nat) : VObj → VObj → Prop
  | .clm m k, o' => ∃ m', o' = .clm m' k ∧ m ≤ m' ∧ (m' = m → K' i = K i ∧ ∀ b, K i = some b → w'.heap[b]? = w.heap[b]?)
  | .dead, o' => o' = .dead ∧ K' i = K i ∧ ∀ b, K i = some b → w'.heap[b]? = w.heap[b]?
  | .dfr, o' => o' = .dfr ∧ K' i = K i
  | .lp _, o' => (∃ L', o' = .lp L') ∧ K' i = K i
  | _, o' => (∀ m k, o' ≠ .clm m k) ∧ K' i = K i
structure Ext (w : World) (K : Nat → Option Nat) (H : List VObj) (w' : World) (K' : Nat → Option Nat) (H' : List VObj) : Prop where
  size : w.heap.size ≤ w'.heap.size
  sz : Szp w w'
  im : ∀ b o, b < w.heap.size → Im K H b o → Im K' H' b o
  cell : ∀ b o, b < w.heap.size → Im K H b o → w'.cell? ⟨b, o, none⟩ = w.cell? ⟨b, o, none⟩
  obj : ∀ i o, H[i]? = some o → ∃ o', H'[i]? = some o' ∧ ObjLe w K w' K' i o o'

theorem cell_lt {w : World} {b o : Nat} {v : Value} (h : w.cell? ⟨b, o, none⟩ = some v) : b < w.heap.size := by
  unfold World.cell? at h
  simp only at h
  rcases Nat.lt_or_ge b w.heap.size with hlt | hge
  · exact hlt
  · rw [Array.getElem?_eq_none hge] at h
    cases h
theorem RepP.ext {w w' : World} {I I' : Nat → Nat → Prop} {v : Value} {x : PV} (h : RepP w I v x) (hI : ∀ b o, b < w.heap.size → I b o → I' b o ∧ w'.cell? ⟨b, o, none⟩ = w.cell? ⟨b, o, none⟩) : RepP w' I' v x := by
  induction h with
  | int k n => exact .int k n
  | bool b => exact .bool b
  | str s => exact .str s
  | nilp => exact .nilp
  | nilm => exact .nilm
  | nilf => exact .nilf
  | sl A c k b off xs f hc hm hk hA hi hw hr ih =>
    exact .sl A c k b off xs f hc hm hk hA (fun i x j u h1 h2 => (hI _ _ (cell_lt (hw i x j u h1 h2)) (hi i x j u h1 h2)).1)
      (fun i x j u h1 h2 => (hI _ _ (cell_lt (hw i x j u h1 h2)) (hi i x j u h1 h2)).2.trans (hw i x j u h1 h2)) ih

mutual
theorem refs_agg_aux (r : Nat) : ∀ cs : List VV, r ∈ refsL cs ↔ ∃ c ∈ cs, r ∈ refs c
  | [] => by simp [refsL]
  | c :: cs => by rw [refsL, List.mem_append, refs_agg_aux r cs]; simp
end
theorem mem_refsL {r : Nat} {cs : List VV} : r ∈ refsL cs ↔ ∃ c ∈ cs, r ∈ refs c := refs_agg_aux r cs
theorem mem_refsLL {r : Nat} : ∀ {cs : List (List VV)}, r ∈ refsLL cs ↔ ∃ c ∈ cs, r ∈ refsL c
  | [] => by simp [refsLL]
  | c :: cs => by rw [refsLL, List.mem_append, mem_refsLL]; simp
theorem refsL_get {cs : List VV} {i : Nat} {c : VV} (h : cs[i]? = some c) {r : Nat} (hr : r ∈ refs c) : r ∈ refsL cs := mem_refsL.2 ⟨c, List.mem_of_getElem? h, hr⟩
theorem refsLL_get {xs : List (List VV)} {i j : Nat} {x : List VV} {u : VV} (h : xs[i]? = some x) (h' : x[j]? = some u) {r : Nat} (hr : r ∈ refs u) : r ∈ refsLL xs := mem_refsLL.2 ⟨x, List.mem_of_getElem? h, refsL_get h' hr⟩

/-- all that v refers to is there -/
def Cl (n : Nat) (v : VV) : Prop := ∀ r ∈ refs v, r < n
theorem Cl.mono {n m : Nat} {v : VV} (h : Cl n v) (hn : n ≤ m) : Cl m v := fun r hr => Nat.lt_of_lt_of_le (h r hr) hn

section
variable {w w' : World} {K K' : Nat → Option Nat} {H H' : List VObj}
theorem Ext.refl (w : World) (K : Nat → Option Nat) (H : List VObj) : Ext w K H w K H :=
  ⟨Nat.le_refl _, Szp.refl _, fun _ _ _ h => h, fun _ _ _ _ => rfl, fun i o h => ⟨o, h, by
    cases o <;> first | exact ⟨_, rfl, Nat.le_refl _, fun _ => ⟨rfl, fun _ _ => rfl⟩⟩ | exact ⟨rfl, rfl, fun _ _ => rfl⟩ | exact ⟨rfl, rfl⟩ | exact ⟨⟨_, rfl⟩, rfl⟩ | exact ⟨fun _ _ e => VObj.noConfusion e, rfl⟩⟩⟩
theorem Ext.len (h : Ext w K H w' K' H') : H.length ≤ H'.length := by
  rcases Nat.eq_zero_or_pos H.length with h0 | h0
  · omega
  · obtain ⟨o', ho, _⟩ := h.obj (H.length - 1) (H[H.length - 1]'(by omega)) (List.getElem?_eq_getElem _)
    have := (List.getElem?_eq_some_iff.1 ho).1
    omega
theorem Ext.trans {w'' : World} {K'' : Nat → Option Nat} {H'' : List VObj} (h : Ext w K H w' K' H') (h' : Ext w' K' H' w'' K'' H'') : Ext w K H w'' K'' H'' :=
  ⟨Nat.le_trans h.size h'.size, h.sz.trans h'.sz, fun b o hb hi => h'.im b o (Nat.lt_of_lt_of_le hb h.size) (h.im b o hb hi),
   fun b o hb hi => (h'.cell b o (Nat.lt_of_lt_of_le hb h.size) (h.im b o hb hi)).trans (h.cell b o hb hi),
   fun i o ho => by
    obtain ⟨o1, h1, l1⟩ := h.obj i o ho
    obtain ⟨o2, h2, l2⟩ := h'.obj i o1 h1
    refine ⟨o2, h2, ?_⟩
    cases o with
    | clm m k =>
      obtain ⟨m1, rfl, hm1, e1⟩ := l1
      obtain ⟨m2, rfl, hm2, e2⟩ := l2
      refine ⟨m2, rfl, Nat.le_trans hm1 hm2, fun e => ?_⟩
      obtain ⟨a1, a2⟩ := e1 (by omega)
      obtain ⟨b1, b2⟩ := e2 (by omega)
      exact ⟨b1.trans a1, fun b hb => (b2 b (a1.trans hb)).trans (a2 b hb)⟩
    | dead =>
      obtain ⟨rfl, a1, a2⟩ := l1
      obtain ⟨rfl, b1, b2⟩ := l2
      exact ⟨rfl, b1.trans a1, fun b hb => (b2 b (a1.trans hb)).trans (a2 b hb)⟩
    | dfr =>
      obtain ⟨rfl, a1⟩ := l1
      obtain ⟨rfl, b1⟩ := l2
      exact ⟨rfl, b1.trans a1⟩
    | lp L =>
      obtain ⟨⟨L1, rfl⟩, a1⟩ := l1
      obtain ⟨⟨L2, rfl⟩, b1⟩ := l2
      exact ⟨⟨L2, rfl⟩, b1.trans a1⟩
    | _ =>
      obtain ⟨n1, e1⟩ := l1
      cases o1 with
      | clm m k => exact absurd rfl (n1 m k)
      | dead =>
        obtain ⟨rfl, b1, _⟩ := l2
        exact ⟨fun _ _ e => VObj.noConfusion e, b1.trans e1⟩
      | dfr =>
        obtain ⟨rfl, b1⟩ := l2
        exact ⟨fun _ _ e => VObj.noConfusion e, b1.trans e1⟩
      | lp L =>
        obtain ⟨⟨L2, rfl⟩, b1⟩ := l2
        exact ⟨fun _ _ e => VObj.noConfusion e, b1.trans e1⟩
      | _ =>
        obtain ⟨n2, e2⟩ := l2
        exact ⟨n2, e2.trans e1⟩⟩
theorem RepP.of_ext {v : Value} {x : PV} (h : RepP w (Im K H) v x) (he : Ext w K H w' K' H') : RepP w' (Im K' H') v x :=
  h.ext fun b o hb hi => ⟨he.im b o hb hi, he.cell b o hb hi⟩
theorem Ext.key (he : Ext w K H w' K' H') {i : Nat} (hi : i < H.length) (hn : ∀ m k, H[i]? ≠ some (.clm m k)) : K' i = K i := by
  obtain ⟨o', _, hl⟩ := he.obj i H[i] (List.getElem?_eq_getElem hi)
  generalize ho : H[i] = o at hl
  have hh : H[i]? = some o := by rw [List.getElem?_eq_getElem hi, ho]
  cases o with
  | clm m k => exact absurd hh (hn m k)
  | dead => exact hl.2.1
  | _ => exact hl.2
theorem TI.of_ext {id k n : Nat} {v : Value} (h : TI w K H id k v n) (he : Ext w K H w' K' H') (hi : id < H.length) : TI w' K' H' id k v n := by
  intro m' k' hm'
  obtain ⟨o', ho', hl⟩ := he.obj id H[id] (List.getElem?_eq_getElem hi)
  rw [hm'] at ho'
  cases ho'
  generalize ho : H[id] = o at hl
  have hh : H[id]? = some o := by rw [List.getElem?_eq_getElem hi, ho]
  cases o with
  | clm m k0 =>
    obtain ⟨m1, e, hm, hl⟩ := hl
    injection e with e1 e2
    subst e1 e2
    obtain ⟨h1, h2⟩ := h m _ hh
    refine ⟨by omega, fun e => ?_⟩
    obtain ⟨e1, e2⟩ := hl (by omega)
    obtain ⟨rfl, h3⟩ := h2 (by omega)
    refine ⟨rfl, ?_⟩
    rcases h3 with ⟨b, c, vs, t, hb, hv, hw, hc⟩ | ⟨hb, hv⟩
    · exact .inl ⟨b, c, vs, t, e1.trans hb, hv, (e2 b hb).trans hw, hc⟩
    · exact .inr ⟨e1.trans hb, hv⟩
  | dead => obtain ⟨e, _⟩ := hl; cases e
  | dfr => obtain ⟨e, _⟩ := hl; cases e
  | lp L => obtain ⟨⟨_, e⟩, _⟩ := hl; cases e
  | _ => exact absurd rfl (hl.1 m' k')

theorem Ext.notClm (he : Ext w K H w' K' H') {i : Nat} (hi : i < H.length) (hn : ∀ m k, H[i]? ≠ some (.clm m k)) : ∀ m k, H'[i]? ≠ some (.clm m k) := by
  intro m k hm
  obtain ⟨o', ho', hl⟩ := he.obj i H[i] (List.getElem?_eq_getElem hi)
  rw [hm] at ho'
  cases ho'
  generalize ho : H[i] = o at hl
  have hh : H[i]? = some o := by rw [List.getElem?_eq_getElem hi, ho]
  cases o with
  | clm m0 k0 => exact hn m0 k0 hh
  | dead => obtain ⟨e, _⟩ := hl; cases e
  | dfr => obtain ⟨e, _⟩ := hl; cases e
  | lp L => obtain ⟨⟨_, e⟩, _⟩ := hl; cases e
  | _ => exact hl.1 m k rfl
theorem RepV.ext {v : Value} {x : VV} (h : RepV w K H v x) (he : Ext w K H w' K' H') (hc : Cl H.length x) : RepV w' K' H' v x := by
  induction h with
  | p v x h => exact .p v x (h.of_ext he)
  | any v => exact .any v
  | agg vs cs hs h1 h ih => exact .agg vs cs hs h1 fun i v c a b => ih i v c a b fun r hr => hc r (by rw [refs]; exact refsL_get b hr)
  | tup vs cs hs h ih => exact .tup vs cs hs fun i v c a b => ih i v c a b fun r hr => hc r (by rw [refs]; exact refsL_get b hr)
  | so v id k xs h ht => exact .so v id k xs (h.of_ext he) (ht.of_ext he (hc id (by simp [refs])))
  | sf A k xs h => exact .sf A k xs (h.of_ext he)
  | ptr id off b h hn => exact .ptr id off b ((he.key (hc id (by simp [refs])) hn).trans h) (he.notClm (hc id (by simp [refs])) hn)
  | ip cs b off f hi hw hr =>
    exact .ip cs b off f (fun j u a => he.im _ _ (cell_lt (hw j u a)) (hi j u a)) (fun j u a => (he.cell _ _ (cell_lt (hw j u a)) (hi j u a)).trans (hw j u a)) fun j u a => (hr j u a).of_ext he
  | iv cs b off f hi hw hr h1 ih =>
    exact .iv cs b off f (fun j u a => he.im _ _ (cell_lt (hw j u a)) (hi j u a)) (fun j u a => (he.cell _ _ (cell_lt (hw j u a)) (hi j u a)).trans (hw j u a))
      (fun j u a => ih j u a fun r hr => hc r (by rw [refs]; exact refsL_get a hr)) h1
  | bf id off n k b c A h hn h2 hm hA hz => exact .bf id off n k b c A (fun hne => (he.key (hc id (by simp [refs])) hn).trans (h hne)) (he.notClm (hc id (by simp [refs])) hn) h2 hm hA fun hne => (hz hne).sz he.sz
  | mp id b h hn => exact .mp id b ((he.key (hc id (by simp [refs])) hn).trans h) (he.notClm (hc id (by simp [refs])) hn)
  | fn f us vs as bs hs ht h h' ih ih' =>
    exact .fn f us vs as bs hs ht (fun i v c a b => ih i v c a b fun r hr => hc r (by rw [refs, List.mem_append]; exact .inl (refsL_get b hr)))
      fun i v c a b => ih' i v c a b fun r hr => hc r (by rw [refs, List.mem_append]; exact .inr (refsL_get b hr))
  | sv A c k b off xs f hcc hm hk hA hi hw hr h1 ih =>
    exact .sv A c k b off xs f hcc hm hk hA (fun i x j u h1 h2 => he.im _ _ (cell_lt (hw i x j u h1 h2)) (hi i x j u h1 h2))
      (fun i x j u h1 h2 => (he.cell _ _ (cell_lt (hw i x j u h1 h2)) (hi i x j u h1 h2)).trans (hw i x j u h1 h2))
      (fun i x j u a a' => ih i x j u a a' fun r hr => hc r (by rw [refs]; exact refsLL_get a a' hr)) h1
  | sw v id k xs h ht ih => exact .sw v id k xs (ih fun r hr => hc r (by simp only [refs] at hr; simp only [refs, List.mem_cons]; exact .inr hr)) (ht.of_ext he (hc id (by simp [refs])))
  | yl id b h hn => exact .yl id b ((he.key (hc id (by simp [refs])) hn).trans h) (he.notClm (hc id (by simp [refs])) hn)
end

/-! ### objects, and the whole -/
def contents : VObj → List VV
  | .obj cs => cs
  | .mpo _ es => es.map (·.2)
  | .lp l => l.tm.map (·.2)
  | _ => []
def keyVal : KSh → List Int → Value
  | .int k, [n] => .int k n
  | _, ns => .agg (ns.map (Value.int .i64)).toArray
def KSh.len : KSh → Nat
  | .int _ => 1
  | .nums n => n

def ObjOk (w : World) (K : Nat → Option Nat) (H : List VObj) (kb : Option Nat) : VObj → Prop
  | .obj cs => ∀ b, kb = some b → ∃ vs t, w.heap[b]? = some (.cells vs t (0, 0)) ∧ cs.length ≤ vs.size ∧ ∀ (i : Nat) (v : Value) (c : VV), vs[i]? = some v → cs[i]? = some c → RepV w K H v c ∧ isOne v = true
  | .clm m k => ∀ b, kb = some b → ∃ vs t, w.heap[b]? = some (.cells vs t (0, 0)) ∧ m * k ≤ vs.size
  | .mpo sh es => ∃ b ents clock, kb = some b ∧ w.heap[b]? = some (.map ents clock) ∧ ents.size = es.length ∧ ∀ (i : Nat) (e : MapEntry) (ks : List Int) (v : VV), ents[i]? = some e → es[i]? = some (ks, v) → e.key = keyVal sh ks ∧ ks.length = sh.len ∧ RepV w K H e.val v
  | .lp l => ∃ b L d, kb = some b ∧ w.heap[b]? = some (.loop L) ∧ L.state = l.st ∧ L.pending = l.pend ∧ True ∧ L.params.toList = l.params ∧ L.assign = l.assign ∧ L.body = l.body ∧ K l.dfr = some d ∧ (∀ m k, H[l.dfr]? ≠ some (.clm m k)) ∧ l.dfr < H.length ∧ L.defers = d ∧ L.tmps.size = l.nt ∧
      ∀ t, RepV w K H (L.tmps.getD t undef) (get l.tm t)
  | .dfr => ∃ b, kb = some b ∧ w.heap[b]? = some (.deferred (some []))
  | .dead => True
  | .gone => True

structure Ghost where
  B : Nat
  w0 : World
  Wr : Nat → Prop
structure Inv (G : Ghost) (w : World) (K : Nat → Option Nat) (M : Mem) : Prop where
  os : w.os = G.w0.os
  tape : w.tape = G.w0.tape
  output : w.output = G.w0.output
  size : G.w0.heap.size ≤ w.heap.size
  gB : G.B ≤ w.heap.size
  old : ∀ b, b < G.B → ¬ G.Wr b → w.heap[b]? = G.w0.heap[b]?
  inj : ∀ i j b, i < M.H.length → j < M.H.length → M.H[i]? ≠ some .gone → M.H[j]? ≠ some .gone → K i = some b → K j = some b → i = j
  blk : ∀ i b, i < M.H.length → K i = some b → b < w.heap.size ∧ (G.B ≤ b ∨ G.Wr b)
  obj : ∀ i o, M.H[i]? = some o → ObjOk w K M.H (K i) o
  cl : ∀ i o, M.H[i]? = some o → ∀ c ∈ contents o, ∀ r ∈ refs c, r < M.H.length ∧ (r ≤ i ∨ (i, r) ∈ M.lg)
  lg : ∀ e ∈ M.lg, e.1 < M.H.length ∧ e.2 < M.H.length
  lpd : ∀ (i : Nat) (L : LoopV), M.H[i]? = some (.lp L) → L.dfr < i

theorem get_mem {e : Env} {t : Nat} : get e t = .any ∨ ∃ k, (k, get e t) ∈ e := by
  induction e with
  | nil => exact .inl rfl
  | cons p e ih =>
    obtain ⟨k, v⟩ := p
    rw [get]
    cases Nat.beq t k
    · rcases ih with h | ⟨k', h⟩
      · exact .inl h
      · exact .inr ⟨k', List.mem_cons_of_mem _ h⟩
    · exact .inr ⟨k, List.mem_cons_self ..⟩
theorem cl_any (n : Nat) : Cl n .any := fun r hr => by simp [refs] at hr
theorem cl_get {n : Nat} {e : Env} (h : ∀ c ∈ e.map (·.2), Cl n c) (t : Nat) : Cl n (get e t) := by
  rcases get_mem (e := e) (t := t) with h1 | ⟨k, h1⟩
  · rw [h1]; exact cl_any n
  · exact h _ (List.mem_map.2 ⟨_, h1, rfl⟩)
theorem ObjOk.ext0 {w w' : World} {K K' : Nat → Option Nat} {H H' : List VObj} {kb : Option Nat} {o : VObj} (h : ObjOk w K H kb o) (he : Ext w K H w' K' H') (hb : ∀ b, kb = some b → w'.heap[b]? = w.heap[b]?)
    (hc : ∀ c ∈ contents o, Cl H.length c) : ObjOk w' K' H' kb o := by
  cases o with
  | obj cs =>
    intro b e
    obtain ⟨vs, t, h1, h2, h3⟩ := h b e
    exact ⟨vs, t, (hb b e).trans h1, h2, fun i v c a b => ⟨(h3 i v c a b).1.ext he (hc c (List.mem_of_getElem? b)), (h3 i v c a b).2⟩⟩
  | clm m k =>
    intro b e
    obtain ⟨vs, t, h1, h2⟩ := h b e
    exact ⟨vs, t, (hb b e).trans h1, h2⟩
  | mpo sh es =>
    obtain ⟨b, ents, clock, e, h1, h2, h3⟩ := h
    refine ⟨b, ents, clock, e, (hb b e).trans h1, h2, fun i x ks v a b => ?_⟩
    obtain ⟨p, q, r⟩ := h3 i x ks v a b
    exact ⟨p, q, r.ext he (hc v (List.mem_map.2 ⟨(ks, v), List.mem_of_getElem? b, rfl⟩))⟩
  | lp l =>
    obtain ⟨b, L, d, e, h1, a1, a2, a3, a4, a5, a6, a7, a8, a9, a10, a11, h3⟩ := h
    exact ⟨b, L, d, e, (hb b e).trans h1, a1, a2, a3, a4, a5, a6, (he.key a9 a8).trans a7, he.notClm a9 a8, Nat.lt_of_lt_of_le a9 he.len, a10, a11, fun t => (h3 t).ext he (cl_get hc t)⟩
  | dfr =>
    obtain ⟨b, e, h1⟩ := h
    exact ⟨b, e, (hb b e).trans h1⟩
  | dead => exact trivial
  | gone => exact trivial
theorem ObjOk.ext {w w' : World} {K K' : Nat → Option Nat} {H H' : List VObj} {kb : Option Nat} {o : VObj} (h : ObjOk w K H kb o) (he : Ext w K H w' K' H') (hb : ∀ b, kb = some b → w'.heap[b]? = w.heap[b]?)
    (hc : ∀ c ∈ contents o, Cl H.length c) : ObjOk w' K' H' kb o := h.ext0 he hb hc
/-- the same, where an object that is gone may lie anywhere -/
theorem ObjOk.extg {w w' : World} {K K' : Nat → Option Nat} {H H' : List VObj} {kb : Option Nat} {o : VObj} (h : ObjOk w K H kb o) (he : Ext w K H w' K' H') (hb : o ≠ .gone → ∀ b, kb = some b → w'.heap[b]? = w.heap[b]?)
    (hc : ∀ c ∈ contents o, Cl H.length c) : ObjOk w' K' H' kb o := by
  by_cases hg : o = .gone
  · subst hg
    exact trivial
  · exact h.ext0 he (hb hg) hc
end Go.Proofs.Ytmagiabapakhcaa.Vm
