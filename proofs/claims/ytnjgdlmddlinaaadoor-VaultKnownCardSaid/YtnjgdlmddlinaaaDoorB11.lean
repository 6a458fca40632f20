/- A part of the proofs about the chapter of the vaults; it states no condition of its own. -/
import Derived.Test.YtnjgdlmddlinaaaDoorB10
import Derived.WalkKit
import Derived.WalkSpells
import Derived.WalkLawsBesides
import Derived.Lib.Hide
import Derived.Maps.AppendAt
import Derived.Test.YtnjgdlmddlinaaaDoorRows
import Derived.OpenShut
import Derived.Deep.QuietTactic
set_option linter.unusedVariables false
set_option linter.unusedSimpArgs false
/- A machine on values: closed runs, of code that is taken apart once: drawn regions and code. -/
namespace Go.Proofs.YtnjgdlmddlinaaaDoor.Vm
open Go

section
variable (T : Tab)
variable (lf : Nat)
end
end Go.Proofs.YtnjgdlmddlinaaaDoor.Vm

/- Words for memory that all walks of this seat share: frames, dice, lists in memory. Nothing here names the program. -/
namespace Go.Proofs.YtnjgdlmddlinaaaDoor
open Go.RowKit

structure Frm (D B : Nat) (w w' : World) : Prop where
 os : w'.os = w.os
 tape : w'.tape = w.tape
 output : w'.output = w.output
 size : w.heap.size ≤ w'.heap.size
 block : ∀ k, k < B → k ≠ D → w'.heap[k]? = w.heap[k]?
theorem Frm.refl (D B : Nat) (w : World) : Frm D B w w := ⟨rfl, rfl, rfl, Nat.le_refl _, fun _ _ _ => rfl⟩
theorem Frm.trans {D B : Nat} {a b c : World} (h : Frm D B a b) (k : Frm D B b c) : Frm D B a c :=
 ⟨k.os.trans h.os, k.tape.trans h.tape, k.output.trans h.output, Nat.le_trans h.size k.size, fun i hi hd => (k.block i hi hd).trans (h.block i hi hd)⟩
theorem Frm.mono {D B B' : Nat} {w w' : World} (h : Frm D B w w') (hB : B' ≤ B) : Frm D B' w w' := ⟨h.os, h.tape, h.output, h.size, fun k hk => h.block k (Nat.lt_of_lt_of_le hk hB)⟩
theorem Frm.below {D B B' : Nat} {w w' : World} (h : Frm D B w w') (hB : B' ≤ B) (hD : B' ≤ D) : Below B' w w' := ⟨h.os, h.tape, h.output, h.size, fun k hk => h.block k (by omega) (by omega)⟩
theorem Frm.of_below {B : Nat} {w w' : World} (h : Below B w w') (D : Nat) : Frm D B w w' := ⟨h.os, h.tape, h.output, h.size, fun k hk _ => h.block k hk⟩
theorem Frm.alloc {D B : Nat} {a w : World} (h : Frm D B a w) (hB : B ≤ w.heap.size) (o : Obj) : Frm D B a (w.alloc o) := h.trans (.of_below ((Below.refl B w).alloc hB o) D)
theorem Frm.setCell {D B : Nat} {a w : World} (h : Frm D B a w) {p : Addr} (hp : B ≤ p.block ∨ p.block = D) (u : Value) : Frm D B a (w.setCell p u) :=
 h.trans ⟨rfl, rfl, rfl, by simp [World.setCell], fun k hk hd => Below.heap_setCell _ _ _ _ (by rintro rfl; rcases hp with hp | hp <;> omega)⟩
theorem Frm.drew {D B : Nat} {a w : World} (h : Frm D B a w) : Frm D B a w.drew := ⟨h.os, h.tape, h.output, h.size, h.block⟩
theorem Frm.drewN {D B : Nat} {a w : World} (h : Frm D B a w) (n : Nat) : Frm D B a (w.drewN n) := ⟨h.os, h.tape, h.output, h.size, h.block⟩
theorem Frm.grown {D B : Nat} {a w w' : World} {row : Option Nat} (h : Frm D B a w) (hg : w.grownBy w' row) (hB : B ≤ w.heap.size) (hr : ∀ k, row = some k → B ≤ k ∨ k = D) : Frm D B a w' :=
 h.trans ⟨hg.os, hg.tape, hg.output, hg.size, fun k hk hd => hg.block k (by omega) (fun e => by rcases hr k e.symm with h | h <;> omega)⟩
theorem Frm.cell {D B : Nat} {w w' : World} (h : Frm D B w w') {p : Addr} (hp : p.block < B) (hd : p.block ≠ D) : w'.cell? p = w.cell? p := World.cell?_of_block (w := w) (h.block p.block hp hd)
theorem Frm.frozen {D B : Nat} {w w' : World} (h : Frm D B w w') {p : Addr} (hp : p.block < B) (hd : p.block ≠ D) : w'.frozen? p = w.frozen? p := World.frozen?_of_block (w := w) (h.block p.block hp hd)
def Blk (w : World) (g : Nat) (t : TypeId) (cs : Array Value) : Prop := w.heap[g]? = some (.cells cs t (0, 0))
section
variable {w w' : World} {g : Nat} {t : TypeId} {cs : Array Value}
theorem Blk.lt (h : Blk w g t cs) : g < w.heap.size := by
 rcases Nat.lt_or_ge g w.heap.size with hlt | hge
 ·exact hlt
 ·unfold Blk at h; rw [Array.getElem?_eq_none hge] at h; cases h
theorem Blk.cell (h : Blk w g t cs) (i : Nat) : w.cell? ⟨g, i, none⟩ = cs[i]? := cell_of_row w g i cs t (0, 0) h
theorem Blk.frozen (h : Blk w g t cs) (i : Nat) : w.frozen? ⟨g, i, none⟩ = false := by
 unfold Blk at h
 simp [World.frozen?, h]
theorem Blk.new (w : World) (t : TypeId) (cs : Array Value) : Blk (w.alloc (.cells cs t)) w.heap.size t cs := heap_alloc_new w _
theorem Blk.drew (h : Blk w g t cs) : Blk w.drew g t cs := h
theorem Blk.drewN (h : Blk w g t cs) (n : Nat) : Blk (w.drewN n) g t cs := h
theorem Blk.alloc (h : Blk w g t cs) (o : Obj) : Blk (w.alloc o) g t cs := (Below.heap_alloc w o g h.lt).trans h
theorem Blk.below {B : Nat} (h : Blk w g t cs) (hb : Below B w w') (hg : g < B) : Blk w' g t cs := (hb.block g hg).trans h
theorem Blk.grown {row : Option Nat} (h : Blk w g t cs) (hb : w.grownBy w' row) (hg : some g ≠ row) : Blk w' g t cs := (hb.block g h.lt hg).trans h
end

def DieAt (w : World) (T D : Nat) : Prop := ∃ f : Int, 0 ≤ f ∧ f < 18446744073709551616 ∧ Blk w D T #[.int .u64 f]
theorem DieAt.lt {w : World} {T D : Nat} (h : DieAt w T D) : D < w.heap.size := by obtain ⟨f, _, _, h⟩ := h; exact h.lt
theorem DieAt.below {w w' : World} {T D B : Nat} (h : DieAt w T D) (hb : Below B w w') (hD : D < B) : DieAt w' T D := by
 obtain ⟨f, h0, h1, h⟩ := h; exact ⟨f, h0, h1, h.below hb hD⟩
theorem DieAt.alloc {w : World} {T D : Nat} (h : DieAt w T D) (o : Obj) : DieAt (w.alloc o) T D := by
 obtain ⟨f, h0, h1, h⟩ := h; exact ⟨f, h0, h1, h.alloc o⟩
def Sl {α : Type} (w : World) (B k : Nat) (enc : α → List Value) (v : Value) (xs : List α) : Prop :=
 ∃ A c, v = .slice A xs.length c ∧ xs.length ≤ c ∧ c ≤ maxLen ∧ (0 < xs.length → ∃ b off, A = some ⟨b, off, none⟩ ∧ b < B ∧
  ∀ i x, xs[i]? = some x → ∀ j u, (enc x)[j]? = some u → w.cell? ⟨b, off + i * k + j, none⟩ = some u)
section
variable {α : Type} {w w' : World} {B B' k : Nat} {enc : α → List Value} {v : Value} {xs : List α}
theorem Sl.keep (h : Sl w B k enc v xs) (hB : B ≤ B') (hk : ∀ b o, b < B → w'.cell? ⟨b, o, none⟩ = w.cell? ⟨b, o, none⟩) : Sl w' B' k enc v xs := by
 obtain ⟨A, c, rfl, h1, h2, h3⟩ := h
 refine ⟨A, c, rfl, h1, h2, fun hp => ?_⟩
 obtain ⟨b, off, rfl, hb, h4⟩ := h3 hp
 exact ⟨b, off, rfl, by omega, fun i x hx j u hu => (hk _ _ hb).trans (h4 i x hx j u hu)⟩
theorem Sl.below {B0 : Nat} (h : Sl w B k enc v xs) (hb : Below B0 w w') (hB : B ≤ B0) (hB' : B ≤ B') : Sl w' B' k enc v xs :=
 h.keep hB' fun b o hlt => hb.cell (p := ⟨b, o, none⟩) (by show b < B0; omega)
theorem Sl.alloc (h : Sl w B k enc v xs) (hB : B ≤ w.heap.size) (hB' : B ≤ B') (o : Obj) : Sl (w.alloc o) B' k enc v xs :=
 h.below ((Below.refl B w).alloc hB o) (Nat.le_refl _) hB'
theorem Sl.empty (A : Option Addr) (c : Nat) (hc : c ≤ maxLen) : Sl w B k enc (.slice A 0 c) [] := ⟨A, c, rfl, by simp, hc, by simp⟩
theorem Sl.nil : Sl w B k enc (.slice none 0 0) [] := Sl.empty none 0 (by unfold maxLen; omega)
theorem Sl.of_blk {g : Nat} {t : TypeId} {cs : Array Value} (h : Blk w g t cs) (hg : g < B) (hl : xs.length ≤ maxLen) (he : ∀ i x, xs[i]? = some x → ∀ j u, (enc x)[j]? = some u → cs[i * k + j]? = some u) :
  Sl w B k enc (.slice (some ⟨g, 0, none⟩) xs.length xs.length) xs :=
 ⟨_, _, rfl, Nat.le_refl _, hl, fun _ => ⟨g, 0, rfl, hg, fun i x hx j u hu => by rw [h.cell, Nat.zero_add]; exact he i x hx j u hu⟩⟩
theorem Sl.of_own {base : Nat} {e : TypeId} {ys : List Value} (h : w.ownsRow base e k v xs.length ys) (hys : ys = xs.flatMap enc) (hk : ∀ x, (enc x).length = k) : Sl w w.heap.size k enc v xs := by
 subst hys
 rcases h.2 with ⟨rfl, h0⟩ | ⟨g, cap, cur, rfl, hg, hh, hn, hm, hs, ht⟩
 ·have := List.eq_nil_of_length_eq_zero h0
  subst this
  exact Sl.nil
 ·have hb : Blk w g e cur := hh
  refine ⟨_, _, rfl, hn, hm, fun hp => ⟨g, 0, rfl, hb.lt, fun i x hx j u hu => ?_⟩⟩
  rw [hb.cell, Nat.zero_add]
  have hj : j < k := by
   have := (List.getElem?_eq_some_iff.1 hu).1
   rw [hk] at this
   exact this
  have hi : i < xs.length := (List.getElem?_eq_some_iff.1 hx).1
  have hlt : i * k + j < xs.length * k := by
   have : (i + 1) * k ≤ xs.length * k := Nat.mul_le_mul_right _ hi
   rw [Nat.add_mul] at this
   omega
  have key : ∀ (l : List α) (i : Nat) (x : α), l[i]? = some x → (l.flatMap enc)[i * k + j]? = (enc x)[j]? := by
   intro l
   induction l with
   | nil => intro i x h; simp at h
   | cons a l ih =>
    intro i x h
    rw [List.flatMap_cons]
    cases i with
    | zero =>
     simp at h
     subst h
     rw [List.getElem?_append_left (by rw [hk]; omega)]
     simp
    | succ i =>
     rw [List.getElem?_append_right (by rw [hk, Nat.add_mul]; omega), hk]
     rw [show (i + 1) * k + j - k = i * k + j from by rw [Nat.add_mul]; omega]
     exact ih i x (by simpa using h)
  have := key xs i x hx
  rw [← ht, List.getElem?_take, if_pos hlt, hu] at this
  simpa using this
end
def intC (x : Int) : List Value := [.int .i64 x]
structure ET (P : Program) (t e k bytes : Nat) : Prop where
 under : P.underlying t = some (.slice e)
 info : ∃ i z, P.info? e = some i ∧ i.zero = some z ∧ i.size = k ∧ i.bytes = bytes ∧ z.cells.size = k
 pos : 0 < k
theorem ET.mk' {P : Program} {t e k bytes : Nat} {z : Value} (hu : P.underlying t = some (.slice e)) (hi : (P.info? e).map (fun i => (i.zero, i.size, i.bytes)) = some (some z, k, bytes)) (hz : z.cells.size = k) (hk : 0 < k) : ET P t e k bytes := by
 obtain ⟨i0, hi, hz0, hz1, hz2⟩ := info_parts hi
 exact ⟨hu, ⟨i0, z, hi, hz0, hz1, hz2, hz⟩, hk⟩
structure Enc {α : Type} (k : Nat) (enc : α → List Value) : Prop where
 len : ∀ x, (enc x).length = k
 one : ∀ x, ∀ u ∈ enc x, u.oneCell' = true
theorem Enc.flat {α : Type} {k : Nat} {enc : α → List Value} (E : Enc k enc) : ∀ (xs : List α), (xs.flatMap enc).length = xs.length * k
 | [] => by simp
 | x :: xs => by simp only [List.flatMap_cons, List.length_append, List.length_cons, E.flat xs, E.len, Nat.add_mul]; omega
theorem flat_at {α : Type} {k : Nat} {enc : α → List Value} (E : Enc k enc) : ∀ (l : List α) (i : Nat) (u : Value), (l.flatMap enc)[i]? = some u → ∃ x, l[i / k]? = some x ∧ (enc x)[i % k]? = some u
 | [], i, u, h => by simp at h
 | a :: l, i, u, h => by
  have hk : 0 < k := by
   rcases Nat.eq_zero_or_pos k with h0 | h0
   ·exfalso
    have : ((a :: l).flatMap enc).length = 0 := by rw [E.flat, h0]; simp
    rw [List.eq_nil_of_length_eq_zero this] at h
    simp at h
   ·exact h0
  rw [List.flatMap_cons] at h
  rcases Nat.lt_or_ge i k with hi | hi
  ·rw [List.getElem?_append_left (by rw [E.len]; exact hi)] at h
   exact ⟨a, by rw [Nat.div_eq_of_lt hi]; rfl, by rw [Nat.mod_eq_of_lt hi]; exact h⟩
  ·rw [List.getElem?_append_right (by rw [E.len]; exact hi), E.len] at h
   obtain ⟨x, h1, h2⟩ := flat_at E l (i - k) u h
   refine ⟨x, ?_, ?_⟩
   ·have : i / k = (i - k) / k + 1 := by rw [← Nat.add_div_right _ hk]; congr 1; omega
    rw [this]; simpa using h1
   ·have : i % k = (i - k) % k := by rw [← Nat.add_mod_right (i - k) k]; congr 1; omega
    rw [this]; exact h2
def Own {α : Type} (w : World) (base e k : Nat) (enc : α → List Value) (v : Value) (xs : List α) : Prop := w.ownsRow base e k v xs.length (xs.flatMap enc)
section
variable {α : Type} {w w' : World} {base e k : Nat} {enc : α → List Value} {v : Value} {xs : List α}
theorem Own.nil : Own w base e k enc (.slice none 0 0) [] := World.ownsRow_nil _ _ _ _
theorem Own.empty {g : Nat} (h : Blk w g e #[]) (hg : base ≤ g) : Own w base e k enc (.slice (some ⟨g, 0, none⟩) 0 0) ([] : List α) :=
 ⟨by simp, .inr ⟨g, 0, #[], rfl, hg, h, Nat.le_refl _, by unfold maxLen; omega, by simp, by simp⟩⟩
theorem Own.sl (h : Own w base e k enc v xs) (E : Enc k enc) : Sl w w.heap.size k enc v xs := Sl.of_own h rfl E.len
theorem Own.alloc (h : Own w base e k enc v xs) (o : Obj) : Own (w.alloc o) base e k enc v xs := World.ownsRow.alloc h o
theorem Own.drew (h : Own w base e k enc v xs) : Own w.drew base e k enc v xs := h
theorem Own.below (h : Own w base e k enc v xs) (hb : Below w.heap.size w w') : Own w' base e k enc v xs := by
 refine ⟨h.1, ?_⟩
 rcases h.2 with h2 | ⟨g, cap, cur, h1, h2, h3, h4⟩
 ·exact .inl h2
 ·exact .inr ⟨g, cap, cur, h1, h2, Blk.below (g := g) (t := e) (cs := cur) h3 hb (Blk.lt h3), h4⟩
end
theorem Sl.news {α : Type} {w : World} {B k : Nat} {enc : α → List Value} {A : Option Addr} {n c : Nat} {ys : List α} (h : Sl w B k enc (.slice A n c) ys) (E : Enc k enc) :
  n = ys.length ∧ (ys = [] ∨ ∃ ad, A = some ad ∧ ∀ j u, (ys.flatMap enc)[j]? = some u → w.cell? (ad.add j) = some u) := by
 obtain ⟨A', c', he, h1, h2, h3⟩ := h
 cases he
 refine ⟨rfl, ?_⟩
 rcases Nat.eq_zero_or_pos ys.length with h0 | h0
 ·exact .inl (List.eq_nil_of_length_eq_zero h0)
 ·obtain ⟨b, off, rfl, hb, h4⟩ := h3 h0
  refine .inr ⟨_, rfl, fun j u hu => ?_⟩
  obtain ⟨x, hx, hux⟩ := flat_at E ys j u hu
  have := h4 _ x hx _ u hux
  have e1 : (⟨b, off, none⟩ : Addr).add j = ⟨b, off + j, none⟩ := by unfold Addr.add; split <;> simp_all
  rw [e1]
  rw [Nat.add_assoc, Nat.mul_comm, Nat.div_add_mod] at this
  exact this
section
variable {α : Type} {P : Program} {w : World} {t e k bytes base B : Nat} {enc : α → List Value} {v src : Value} {xs ys : List α} {o : Oper} {a : Act} {Q : Exit → Act → World → Prop}
end
end Go.Proofs.YtnjgdlmddlinaaaDoor

/- What is known of the program of this seat, in the machine on values. -/
namespace Go.Proofs.YtnjgdlmddlinaaaDoor.Vm
open Go Go.Proofs Go.RowKit

theorem two {xs : List Int} (h : xs.length = 2) : ∃ a b, xs = [a, b] := by
 match xs, h with
 | [a, b], _ => exact ⟨a, b, rfl⟩
theorem three {xs : List Int} (h : xs.length = 3) : ∃ a b c, xs = [a, b, c] := by
 match xs, h with
 | [a, b, c], _ => exact ⟨a, b, c, rfl⟩
theorem eqIn_Cell (d : Nat) (a b c e : Int) (w : World) : (Op.equalIn (d + 2) 24 (.agg #[.int .i64 a, .int .i64 b]) (.agg #[.int .i64 c, .int .i64 e])).run Tryd.prog w = .ok (decide (a = c ∧ b = e)) w := by
 have u3 := Tryd.underlying3
 have a3 := Tryd.isAgg3
 have z3 := Tryd.sizeOf3
 have hS : Tryd.prog.underlying 24 = some (.struct (Tryd.prog.fieldsOf 24)) := by kernel_rfl
 have hp : Tryd.prog.stoodInHeld 24 = false := by kernel_rfl
 rw [run_equalIn_agg w (d + 1) _ _ _ hS hp]
 simp only [Program.fieldsOf, Tryd.underlying24]
 go_simp
 by_cases h1 : a = c <;> by_cases h2 : b = e <;> simp [h1, h2]
theorem eqIn_Span (d : Nat) (a b c e : Int) (w : World) : (Op.equalIn (d + 2) 51 (.agg #[.int .i64 a, .int .i64 b]) (.agg #[.int .i64 c, .int .i64 e])).run Tryd.prog w = .ok (decide (a = c ∧ b = e)) w := by
 have u3 := Tryd.underlying3
 have a3 := Tryd.isAgg3
 have z3 := Tryd.sizeOf3
 have hS : Tryd.prog.underlying 51 = some (.struct (Tryd.prog.fieldsOf 51)) := by kernel_rfl
 have hp : Tryd.prog.stoodInHeld 51 = false := by kernel_rfl
 rw [run_equalIn_agg w (d + 1) _ _ _ hS hp]
 simp only [Program.fieldsOf, Tryd.underlying51]
 go_simp
 by_cases h1 : a = c <;> by_cases h2 : b = e <;> simp [h1, h2]
theorem cmpCell : CmpOk Tryd.prog 24 2 := by
 refine ⟨fun xs ys w hx hy => ?_, by kernel_rfl, fun xs e w hx => ?_, ⟨.struct (Tryd.prog.fieldsOf 24), by kernel_rfl, fun k h => by (cases h), fun h => by (cases h), fun h => by (cases h)⟩⟩
 ·obtain ⟨a, b, rfl⟩ := two hx
  obtain ⟨c, d, rfl⟩ := two hy
  show (Op.equalIn (9998 + 2) _ _ _).run _ _ = _
  rw [show nums [a, b] = .agg #[.int .i64 a, .int .i64 b] from rfl, show nums [c, d] = .agg #[.int .i64 c, .int .i64 d] from rfl, eqIn_Cell]
  congr 1
  by_cases h1 : a = c <;> by_cases h2 : b = d <;> simp [h1, h2]
 ·obtain ⟨a, b, rfl⟩ := two hx
  have u3 := Tryd.underlying3
  have a3 := Tryd.isAgg3
  have z3 := Tryd.sizeOf3
  rw [show nums [a, b] = .agg #[.int .i64 a, .int .i64 b] from rfl]
  generalize hd : (10000 : Nat) = d
  obtain ⟨d, rfl⟩ : ∃ e, d = e + 3 := ⟨9997, by omega⟩
  clear hd
  have h3 : ∀ (n : Int) (w : World), (Instr.checkKey e (d + 2) 3 (.int .i64 n)).run Tryd.prog w = .ok () w := fun n w => by
   rw [Instr.checkKey]
   go_simp
  rw [Instr.checkKey]
  simp only [Sem.run_bind, Tryd.underlying24]
  go_simp
theorem cmpSpan : CmpOk Tryd.prog 51 2 := by
 refine ⟨fun xs ys w hx hy => ?_, by kernel_rfl, fun xs e w hx => ?_, ⟨.struct (Tryd.prog.fieldsOf 51), by kernel_rfl, fun k h => by (cases h), fun h => by (cases h), fun h => by (cases h)⟩⟩
 ·obtain ⟨a, b, rfl⟩ := two hx
  obtain ⟨c, d, rfl⟩ := two hy
  show (Op.equalIn (9998 + 2) _ _ _).run _ _ = _
  rw [show nums [a, b] = .agg #[.int .i64 a, .int .i64 b] from rfl, show nums [c, d] = .agg #[.int .i64 c, .int .i64 d] from rfl, eqIn_Span]
  congr 1
  by_cases h1 : a = c <;> by_cases h2 : b = d <;> simp [h1, h2]
 ·obtain ⟨a, b, rfl⟩ := two hx
  have u3 := Tryd.underlying3
  have a3 := Tryd.isAgg3
  have z3 := Tryd.sizeOf3
  rw [show nums [a, b] = .agg #[.int .i64 a, .int .i64 b] from rfl]
  generalize hd : (10000 : Nat) = d
  obtain ⟨d, rfl⟩ : ∃ e, d = e + 3 := ⟨9997, by omega⟩
  clear hd
  have h3 : ∀ (n : Int) (w : World), (Instr.checkKey e (d + 2) 3 (.int .i64 n)).run Tryd.prog w = .ok () w := fun n w => by
   rw [Instr.checkKey]
   go_simp
  rw [Instr.checkKey]
  simp only [Sem.run_bind, Tryd.underlying51]
  go_simp
theorem eqIn_Put (d : Nat) (a b k c e l : Int) (w : World) : (Op.equalIn (d + 3) 37 (.agg #[.int .i64 a, .int .i64 b, .int .i64 k]) (.agg #[.int .i64 c, .int .i64 e, .int .i64 l])).run Tryd.prog w = .ok (decide (a = c ∧ b = e ∧ k = l)) w := by
 have u3 := Tryd.underlying3
 have a3 := Tryd.isAgg3
 have z3 := Tryd.sizeOf3
 have a24 := Tryd.isAgg24
 have z24 := Tryd.sizeOf24
 have hIn := fun d w => eqIn_Cell d a b c e w
 have hS : Tryd.prog.underlying 37 = some (.struct (Tryd.prog.fieldsOf 37)) := by kernel_rfl
 have hp : Tryd.prog.stoodInHeld 37 = false := by kernel_rfl
 rw [run_equalIn_agg w (d + 2) _ _ _ hS hp]
 simp only [Program.fieldsOf, Tryd.underlying37]
 clear hS hp
 go_simp
 by_cases h1 : a = c <;> by_cases h2 : b = e <;> by_cases h3 : k = l <;> simp [h1, h2, h3]
theorem cmpPut : CmpOk Tryd.prog 37 3 := by
 refine ⟨fun xs ys w hx hy => ?_, by kernel_rfl, fun xs e w hx => ?_, ⟨.struct (Tryd.prog.fieldsOf 37), by kernel_rfl, fun k h => by (cases h), fun h => by (cases h), fun h => by (cases h)⟩⟩
 ·obtain ⟨a, b, k, rfl⟩ := three hx
  obtain ⟨c, d, l, rfl⟩ := three hy
  show (Op.equalIn (9997 + 3) _ _ _).run _ _ = _
  rw [show nums [a, b, k] = .agg #[.int .i64 a, .int .i64 b, .int .i64 k] from rfl, show nums [c, d, l] = .agg #[.int .i64 c, .int .i64 d, .int .i64 l] from rfl, eqIn_Put]
  congr 1
  by_cases h1 : a = c <;> by_cases h2 : b = d <;> by_cases h3 : k = l <;> simp [h1, h2, h3]
 ·obtain ⟨a, b, k, rfl⟩ := three hx
  have u3 := Tryd.underlying3
  have a3 := Tryd.isAgg3
  have z3 := Tryd.sizeOf3
  have a24 := Tryd.isAgg24
  have z24 := Tryd.sizeOf24
  rw [show nums [a, b, k] = .agg #[.int .i64 a, .int .i64 b, .int .i64 k] from rfl]
  generalize hd : (10000 : Nat) = d
  obtain ⟨d, rfl⟩ : ∃ e, d = e + 4 := ⟨9996, by omega⟩
  clear hd
  have h2 : ∀ (m : Nat) (n : Int) (w : World), (Instr.checkKey e (m + 1) 3 (.int .i64 n)).run Tryd.prog w = .ok () w := fun m n w => by
   rw [Instr.checkKey]
   go_simp
  have h3 : ∀ (a b : Int) (w : World), (Instr.checkKey e (d + 3) 24 (.agg #[.int .i64 a, .int .i64 b])).run Tryd.prog w = .ok () w := fun a b w => by
   have h4 := h2 (d + 1)
   rw [Instr.checkKey]
   simp only [Sem.run_bind, Tryd.underlying24]
   go_simp
  have h5 := h2 (d + 2)
  rw [Instr.checkKey]
  simp only [Sem.run_bind, Tryd.underlying37]
  go_simp
def cmpB (t : Nat) : Bool := Nat.beq t 24 || (Nat.beq t 51 || Nat.beq t 37)
theorem size_of {t n : Nat} {y : Ty} (h : tyOf Tryd.prog cmpB t = some y) (hn : (tyOf Tryd.prog cmpB t).map (·.size) = some n) : y.size = n := by
 rw [h] at hn
 exact Option.some.inj hn
theorem cmpB_ok : ∀ t y, cmpB t = true → tyOf Tryd.prog cmpB t = some y → CmpOk Tryd.prog t y.size := by
 intro t y h hy
 simp only [cmpB, Bool.or_eq_true] at h
 rcases h with h | h | h
 ·have := Nat.eq_of_beq_eq_true h
  subst this
  rw [size_of hy (n := 2) (by kernel_rfl)]
  exact cmpCell
 ·have := Nat.eq_of_beq_eq_true h
  subst this
  rw [size_of hy (n := 2) (by kernel_rfl)]
  exact cmpSpan
 ·have := Nat.eq_of_beq_eq_true h
  subst this
  rw [size_of hy (n := 3) (by kernel_rfl)]
  exact cmpPut
def keepsB (f : Nat) : Bool := Nat.beq f 29 || Nat.beq f 32
noncomputable def T : Tab := tabOf Tryd.prog cmpB (varsOf Tryd.prog) keepsB
theorem T_ok : TabOk Tryd.prog T := tabOf_ok cmpB_ok (by kernel_rfl)
theorem Ws : type_of% @W_seq := @W_seq
theorem Wr {cx : Cx} {e : Env} {M : Mem} {D : List Nat} {Q : PQ} {id : Nat} {ops : Array Oper} (h : WOps Tryd.prog T cx.nt ops ops.toList e M fun e' M' => Q .normal e' M' D) : WCode Tryd.prog cx (.region id ops false) e M D Q := W_region0 T_ok h
theorem Wt {P : Program} {cx : Cx} {e : Env} {M : Mem} {D : List Nat} {Q : PQ} {c : Operand} {x y : Code} (hb : ev e c = .p (.bool true)) (h : WCode P cx x e M D Q) : WCode P cx (.cond c x y) e M D Q := W_cond (b := true) hb (fun _ => h) fun h => by cases h
theorem Wf {P : Program} {cx : Cx} {e : Env} {M : Mem} {D : List Nat} {Q : PQ} {c : Operand} {x y : Code} (hb : ev e c = .p (.bool false)) (h : WCode P cx y e M D Q) : WCode P cx (.cond c x y) e M D Q := W_cond (b := false) hb (fun h => by cases h) fun _ => h
theorem EV : type_of% (And.intro (@ev.eq_1) (And.intro (@ev.eq_2) (And.intro (@ev.eq_3) (And.intro (@ev.eq_4) (And.intro (@get_cons) (And.intro (@if_true.{1}) (@if_false.{1}))))))) := And.intro (@ev.eq_1) (And.intro (@ev.eq_2) (And.intro (@ev.eq_3) (And.intro (@ev.eq_4) (And.intro (@get_cons) (And.intro (@if_true.{1}) (@if_false.{1}))))))
end Go.Proofs.YtnjgdlmddlinaaaDoor.Vm
