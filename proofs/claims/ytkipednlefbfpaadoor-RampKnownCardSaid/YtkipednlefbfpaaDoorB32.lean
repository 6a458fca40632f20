/- A part of the proofs about the chapter of the ramps; it states no condition of its own. -/
import Derived.Test.YtkipednlefbfpaaDoorB13
import Derived.Test.YtkipednlefbfpaaDoorB29
import Derived.Lib.Builder
import Derived.Shelf.Strings.BuilderK
set_option linter.unusedVariables false
set_option linter.unusedSimpArgs false
open Int renaming reduceLE → zA, reduceLT → zB, reduceToNat → zC, reduceNeg → zD
open Nat renaming reduceLT → zE, reduceEqDiff → zF, reduceAdd → zG, reduceSub → zH, reduceMul → zI, reduceLeDiff → zJ
/- A strings.Builder of our own: it is made. (Vm) -/
namespace Go.Proofs.YtkipednlefbfpaaDoor.Vm
open Go Go.Proofs Go.RowKit
section
variable {P : Program} {T : Tab} {cx : Cx} {e : Env} {M : Mem} {D : List Nat} {Q : PQ}
theorem so_nil {w : World} {K : Nat → Option Nat} {H : List VObj} {j : Nat} (hj : H[j]? = some (.clm 0 1)) (hK : K j = none) : RepV w K H (.slice none 0 0) (.so j 1 (bysV [])) :=
 .so _ j 1 [] (.sl none 0 1 0 0 [] (fun _ _ => .nilFunc) (by simp) (by simp [maxLen]) (by simp) (by simp) (by simp) (by simp) (by simp)) (fun m k' hm => by
  rw [hj] at hm
  cases hm
  exact ⟨Nat.le_refl _, fun _ => ⟨rfl, .inr ⟨hK, rfl, none, rfl⟩⟩⟩)
theorem W_allocB (hT : TabOk P T) {id d tB tE : Nat} {ty : TypeId} {p : String} {af : Array Edge} {y : Ty} (hy : T.ty tB = some y) (hz : y.z = .agg #[.pointer none, .slice none 0 0]) (hd : d < cx.nt)
  (h : Q .normal ((d, .ptr (M.H.length + 1) 0) :: e) ⟨M.H ++ [.clm 0 1, .bld tB tE M.H.length []], M.lg⟩ D) :
  WCode P cx (.region id #[{ dst := some d, op := .alloc tB, type := ty, pos := p, after := af, guard := none }] false) e M D Q := by
 intro G w K a hs
 refine wpIn_region ?_
 have hY := hT.ty _ _ hy
 have hzz := run_zero' (P := P) (w := w) hY
 have hrun : (execOp a.eval ({ dst := some d, op := .alloc tB, type := ty, pos := p, after := af, guard := none } : Oper)).run P w = .ok (.value (.pointer (some ⟨w.heap.size, 0, none⟩))) (w.alloc (.cells #[.pointer none, .slice none 0 0] tB)) := by
  simp [execOp, Instr.alloc, hzz, hz, newVar, newRow, Value.cells]
 obtain ⟨e1, i1⟩ := step_new (w' := w) hs.inv (calm_refl w) (fun _ _ => rfl) (.clm 0 1) none (fun b e => by cases e) (fun c hc => by simp [contents] at hc) (fun hE b e => by cases e)
 replace e1 : Ext w K M.H w (upd K M.H.length none) (M.push (.clm 0 1)).H := e1
 have hnew := heap_alloc_new w (.cells #[.pointer none, .slice none 0 0] tB)
 have hl1 : (M.push (.clm 0 1)).H.length = M.H.length + 1 := by simp [Mem.push]
 have hj1 : (M.push (.clm 0 1)).H[M.H.length]? = some (.clm 0 1) := by simp [Mem.push]
 obtain ⟨e2, i2⟩ := step_new i1 (w' := w.alloc (.cells #[.pointer none, .slice none 0 0] tB)) ⟨rfl, rfl, rfl, by show w.heap.size ≤ (w.heap.push _).size; simp⟩ (fun b hb => heap_alloc_old w _ b hb) (.bld tB tE M.H.length []) (some w.heap.size)
  (fun b hb => by cases hb; exact ⟨Nat.le_refl _, by show _ < (w.heap.push _).size; simp⟩)
  (fun c hcc r hr => by
    simp only [contents, List.mem_singleton] at hcc
    subst hcc
    simp only [refs, List.mem_singleton] at hr
    omega)
  (fun hE => ⟨w.heap.size, .slice none 0 0, .pointer none, rfl, hnew, .inl rfl, so_nil (by rw [List.getElem?_append_left (by omega)]; exact hj1) (by rw [upd_ne _ _ (by omega)]; exact upd_same _ _ _), .inl rfl⟩)
 have hM : ((M.push (.clm 0 1)).push (.bld tB tE M.H.length [])) = ⟨M.H ++ [.clm 0 1, .bld tB tE M.H.length []], M.lg⟩ := by simp [Mem.push]
 rw [hM] at i2
 rw [show (M.push (.clm 0 1)).H ++ [.bld tB tE M.H.length []] = M.H ++ [.clm 0 1, .bld tB tE M.H.length []] by simp [Mem.push]] at e2
 have hE := e1.trans e2
 have hw0 : vwanted #[({ dst := some d, op := .alloc tB, type := ty, pos := p, after := af, guard := none } : Oper)] { dst := some d, op := .alloc tB, type := ty, pos := p, after := af, guard := none } e = some true := rfl
 simp only [List.size_toArray, List.length_cons, List.length_nil, Nat.zero_add, List.range_succ, List.range_zero, List.nil_append, wpOpsIn, List.getElem?_toArray, List.getElem?_cons_zero]
 rw [wanted_ok hs.fr hw0]
 simp only [if_true]
 refine ⟨fun _ _ => trivial, ?_⟩
 rw [Oper.semAt_eq _ _ _ (fun c hc => by cases hc), hrun]
 have hrep : RepV (w.alloc (.cells #[.pointer none, .slice none 0 0] tB)) (upd (upd K M.H.length none) (M.push (.clm 0 1)).H.length (some w.heap.size)) (M.H ++ [.clm 0 1, .bld tB tE M.H.length []]) (.pointer (some ⟨w.heap.size, 0, none⟩)) (.ptr (M.H.length + 1) 0) := by
  refine .ptr _ _ _ (by rw [hl1]; exact upd_same _ _ _) fun m k hm => ?_
  rw [List.getElem?_append_right (by omega)] at hm
  simp at hm
 obtain ⟨hf', hd'⟩ := put_ok (M := ⟨M.H ++ [.clm 0 1, .bld tB tE M.H.length []], M.lg⟩) (hs.fr.ext (M' := ⟨M.H ++ [.clm 0 1, .bld tB tE M.H.length []], M.lg⟩) hE) (dst := some d) (v := .ptr (M.H.length + 1) 0) (e' := (d, .ptr (M.H.length + 1) 0) :: e) (by unfold vput; simp only; rw [show Nat.blt d cx.nt = true by rw [Nat.blt_eq]; exact hd]; rfl) hrep (fun r hr => by obtain rfl : r = M.H.length + 1 := (by simpa [refs] using hr) ; show M.H.length + 1 < (M.H ++ [_, _]).length; rw [List.length_append]; exact Nat.lt_succ_self _)
 exact ⟨_, _, _, D, h, trivial, ⟨hf', by rw [hd']; exact df_ext hE hs.df, i2, (rd_ext hE hs.rd).1⟩, hE⟩
end
end Go.Proofs.YtkipednlefbfpaaDoor.Vm

/- (*strings.Builder).WriteString, in the model. (Vm) -/
namespace Go.Proofs.YtkipednlefbfpaaDoor.Vm
open Go Go.Proofs Go.RowKit
structure AppP (w w2 : World) (tE : Nat) (v v' : Value) (l s : By) : Prop where
 row : ∃ g cap cur, v' = .slice (some ⟨g, 0, none⟩) (l.length + s.length) cap ∧ w2.heap[g]? = some (.cells cur tE (0, 0)) ∧ l.length + s.length ≤ cap ∧ cap ≤ maxLen ∧ cur.size = cap ∧ cur.toList.take (l.length + s.length) = Lib.byteCells (l ++ s) ∧ (v.ownBlock = some g ∨ w.heap.size ≤ g)
 grown : w.grownBy w2 v.ownBlock
 old : ∀ k0, v.ownBlock = some k0 → ∃ c0 c1, w.heap[k0]? = some (.cells c0 tE (0, 0)) ∧ w2.heap[k0]? = some (.cells c1 tE (0, 0)) ∧ c1.size = c0.size ∧ ∀ o, o < l.length → c1[o]? = c0[o]?
theorem str_byte (s : By) : Lib.strCells (tx s) = Lib.byteCells s := by
 unfold Lib.strCells Lib.byteCells
 rw [tx_list]
theorem byte_app (a b : By) : Lib.byteCells (a ++ b) = Lib.byteCells a ++ Lib.byteCells b := by simp [Lib.byteCells]
theorem run_append_str {P : Program} (w : World) (t u ty e : TypeId) (i : TypeInfo) (ht : P.underlying t = some (.slice e)) (hu : P.underlying u = some .string) (hi : P.info? e = some i) (hz : i.zero = some (.int .u8 0))
  (hsize : i.size = 1) (hby : i.bytes = 1) (v : Value) (l s : By) (hown : w.ownsRow 0 e 1 v l.length (Lib.byteCells l)) (hs : s ≠ []) (hb : l.length + s.length ≤ 140737488355328) :
  ∃ v' w2, (Builtin.append_ #[t, u] ty #[v, .string (tx s)]).run P w = .ok v' w2 ∧ AppP w w2 e v v' l s := by
 have hs1 : 0 < s.length := List.length_pos_iff.2 hs
 rcases hown.2 with ⟨rfl, h0⟩ | ⟨g, cap, cur, rfl, _, hg, hnc, hcm, hcs, htake⟩
 ·obtain rfl : l = [] := List.eq_nil_of_length_eq_zero h0
  obtain ⟨v', w2, h1, h2, h3, h4⟩ := Lib.run_append_own_string (P := P) w w.heap.size t u ty e i ht hu hi hz hsize hby (.slice none 0 0) 0 [] (World.ownsRow_nil w _ e 1) (tx s) (by rw [tx_size]; unfold maxLen; simp at hb; omega) (by rw [tx_size]; simp at hb; omega) (Nat.le_refl _)
  refine ⟨v', w2, h1, ⟨?_, h3, fun k0 hk => by cases hk⟩⟩
  rcases h2.2 with ⟨rfl, hn⟩ | ⟨g, cap, cur, rfl, hbg, hg, hnc, hcm, hcs, htake⟩
  ·rw [tx_size] at hn; omega
  ·rw [tx_size] at hnc htake
   rw [tx_size]
   simp only [List.nil_append, str_byte, Nat.mul_one, Nat.zero_add] at htake hcs ⊢
   exact ⟨g, cap, cur, by simp, hg, by simpa using hnc, hcm, hcs, by simpa using htake, .inr hbg⟩
 ·have hsmall : l.length + s.length ≤ 9223372036854775807 := by omega
  have hxl : (Lib.byteCells l).length = l.length := Lib.byteCells_length l
  simp only [Nat.mul_one] at hcs htake
  by_cases hroom : l.length + s.length ≤ cap
  ·have hr := Lib.run_append_room_string (P := P) w t u ty e i ht hu hi hsize g l.length cap cur hg (tx s) (by rw [tx_size]; exact hroom) (by rw [tx_size]; omega)
   rw [tx_size, str_byte] at hr
   refine ⟨_, _, hr, ⟨⟨g, cap, _, rfl, setRow_heap w g cur _ e _ hg, hroom, hcm, ?_, ?_, .inl rfl⟩, ⟨rfl, rfl, rfl, by simp, fun k _ hk => setRow_other w g k _ (fun e => hk (by simp [Value.ownBlock, e]))⟩, fun k0 hk => ?_⟩⟩
   ·simp only [List.size_toArray, List.length_append, List.length_take, List.length_drop, Array.length_toList, Lib.byteCells_length]
    omega
   ·rw [htake, byte_app]
    show ((Lib.byteCells l ++ Lib.byteCells s) ++ _).take _ = _
    rw [show l.length + s.length = (Lib.byteCells l ++ Lib.byteCells s).length by rw [List.length_append, Lib.byteCells_length, Lib.byteCells_length]]
    exact List.take_left
   ·obtain rfl : g = k0 := by simpa [Value.ownBlock] using hk
    refine ⟨cur, _, hg, setRow_heap w g cur _ e _ hg, ?_, fun o ho => ?_⟩
    ·simp only [List.size_toArray, List.length_append, List.length_take, List.length_drop, Array.length_toList, Lib.byteCells_length]
     omega
    ·have hcl : cur.toList.length = cur.size := Array.length_toList
     rw [List.getElem?_toArray, List.append_assoc, List.getElem?_append_left (by rw [List.length_take]; omega), List.getElem?_take, if_pos ho, Array.getElem?_toList]
  ·have holds : ∀ j u, (Lib.byteCells l)[j]? = some u → w.cell? ((⟨g, 0, none⟩ : Addr).add j) = some u := hown.cells (g := g) rfl
   have hr := Lib.run_append_grow_string (P := P) w t u ty e i (.int .u8 0) ht hu hi hz ⟨g, 0, none⟩ l.length cap (Lib.byteCells l) (by rw [hsize]; omega) holds (tx s) (by rw [tx_size]; omega) (by rw [tx_size]; omega) (by rw [hby, tx_size]; exact growslice_fits (by omega) (by omega))
   rw [tx_size, str_byte] at hr
   have hge := grownCap_ge w (l.length + s.length) cap e
   have hcm2 : grownCap w (l.length + s.length) cap e ≤ maxLen := grownCap_le_maxLen w (l.length + s.length) cap e (by unfold maxLen; omega)
   refine ⟨_, _, hr, ⟨⟨w.heap.size, _, _, rfl, heap_alloc_new w.drew _, hge, hcm2, ?_, ?_, .inr (Nat.le_refl _)⟩, ⟨rfl, rfl, rfl, by simp, fun k hk _ => heap_alloc_old w.drew _ k hk⟩, fun k0 hk => ?_⟩⟩
   ·have hz1 : (Value.int IntKind.u8 0).cells.size = 1 := rfl
    simp only [Array.size_append, List.size_toArray, size_zeroCells, hz1, Lib.byteCells_length]
    omega
   ·rw [byte_app]
    simp only [Array.toList_append, List.append_assoc]
    rw [← List.append_assoc, show l.length + s.length = (Lib.byteCells l ++ Lib.byteCells s).length by rw [List.length_append, Lib.byteCells_length, Lib.byteCells_length]]
    exact List.take_left
   ·obtain rfl : g = k0 := by simpa [Value.ownBlock] using hk
    exact ⟨cur, cur, hg, (heap_alloc_old w.drew _ g (Array.getElem?_eq_some_iff.1 hg).1).trans hg, rfl, fun _ _ => rfl⟩
theorem wpList_append_str {P : Program} {w : World} {ops : Array Oper} {rest : List Oper} {o : Oper} {a : Act} {Q : Exit → Act → World → Prop} (hgd : o.guard = none) (sl x : Operand) (t u : TypeId)
  (ho : o.op = .call { callee := .builtin .append, args := #[sl, x], argTypes := #[t, u] })
  (e : TypeId) (i : TypeInfo) (ht : P.underlying t = some (.slice e)) (hu : P.underlying u = some .string) (hi : P.info? e = some i) (hz : i.zero = some (.int .u8 0))
  (hsize : i.size = 1) (hby : i.bytes = 1) (v : Value) (l s : By) (hs : a.eval sl = v) (hown : w.ownsRow 0 e 1 v l.length (Lib.byteCells l)) (hne : s ≠ []) (hx : a.eval x = .string (tx s)) (hb : l.length + s.length ≤ 140737488355328)
  (h : ∀ v' w2, AppP w w2 e v v' l s → wpList P ops Q rest (a.put o.dst v') w2) : wpList P ops Q (o :: rest) a w := by
 refine wpList_plain hgd fun K hK => ?_
 obtain ⟨v', w2, hr, h2⟩ := run_append_str (P := P) w t u o.type e i ht hu hi hz hsize hby v l s hown hne hb
 unfold Oper.wp execOp
 simp only [ho, resolve, invoke, builtin, Sem.run_bind, Sem.run_pure, Result.andThen_ok, List.map_toArray, List.map_cons, List.map_nil, hs, hx, hr]
 exact hK _ _ (h v' w2 h2)
abbrev tBld : Nat := 94
abbrev tByte : Nat := 5
structure WsP (w w2 : World) (b : Nat) (v : Value) (l s : By) : Prop where
 row : ∃ g cap cur, w2.heap[b]? = some (.cells #[.pointer (some ⟨b, 0, none⟩), .slice (some ⟨g, 0, none⟩) (l.length + s.length) cap] tBld (0, 0)) ∧ w2.heap[g]? = some (.cells cur tByte (0, 0)) ∧ l.length + s.length ≤ cap ∧ cap ≤ maxLen ∧ cur.size = cap ∧ cur.toList.take (l.length + s.length) = Lib.byteCells (l ++ s) ∧ (v.ownBlock = some g ∨ w.heap.size ≤ g)
 os : w2.os = w.os
 tape : w2.tape = w.tape
 output : w2.output = w.output
 size : w.heap.size ≤ w2.heap.size
 block : ∀ k, k < w.heap.size → k ≠ b → some k ≠ v.ownBlock → w2.heap[k]? = w.heap[k]?
 old : ∀ k0, v.ownBlock = some k0 → ∃ c0 c1, w.heap[k0]? = some (.cells c0 tByte (0, 0)) ∧ w2.heap[k0]? = some (.cells c1 tByte (0, 0)) ∧ c1.size = c0.size ∧ ∀ o, o < l.length → c1[o]? = c0[o]?
theorem setCell_eq (w : World) (b : Nat) (p v x : Value) (T : TypeId) (i : Nat) (h : w.heap[b]? = some (.cells #[p, v] T (0, 0))) : (w.setCell ⟨b, i, none⟩ x).heap[b]? = some (.cells ((#[p, v] : Array Value).setIfInBounds i x) T (0, 0)) := by
 simp [World.setCell, Array.getElem?_modify, h]
set_option maxHeartbeats 2000000 in
set_option maxRecDepth 100000 in
theorem writeString_raw (w : World) (b : Nat) (p v : Value) (l s : By) (hb : w.heap[b]? = some (.cells #[p, v] tBld (0, 0))) (hp : p = .pointer none ∨ p = .pointer (some ⟨b, 0, none⟩))
  (hown : w.ownsRow 0 tByte 1 v l.length (Lib.byteCells l)) (hne : v.ownBlock ≠ some b) (hs : s ≠ []) (hl : l.length + s.length ≤ 140737488355328) :
  Calls Tryd.prog 42 #[.pointer (some ⟨b, 0, none⟩), .string (tx s)] w fun e w' => e = .returned (.tuple #[.int .i64 (tx s).size, .nilIface]) ∧ WsP w w' b v l s := by
 have hcc : Calls Tryd.prog 54 #[.pointer (some ⟨b, 0, none⟩)] w fun e w1 => e = .returned (.tuple #[]) ∧ w1.heap[b]? = some (.cells #[.pointer (some ⟨b, 0, none⟩), v] tBld (0, 0)) ∧ w1.os = w.os ∧ w1.tape = w.tape ∧ w1.output = w.output ∧ w1.heap.size = w.heap.size ∧ ∀ k, k ≠ b → w1.heap[k]? = w.heap[k]? := by
  rcases hp with rfl | rfl
  ·refine (Any.Builder_copyCheck_fresh Tryd.lays240 Tryd.Builder_X72_240 b w (by rw [Lib.cell_of_heap hb]; rfl) (by simp [World.shape?, hb]; rfl) (Lib.frozen_of_heap hb 0)).mono ?_
   rintro e w1 ⟨rfl, rfl⟩
   refine ⟨rfl, setCell_eq w b _ v _ _ 0 hb, rfl, rfl, rfl, by simp [World.setCell], fun k hk => Below.heap_setCell _ _ _ _ hk⟩
  ·refine (Any.Builder_copyCheck_used Tryd.lays240 Tryd.Builder_X72_240 b w (by rw [Lib.cell_of_heap hb]; rfl)).mono ?_
   rintro e w1 ⟨rfl, rfl⟩
   exact ⟨rfl, hb, rfl, rfl, rfl, rfl, fun _ _ => rfl⟩
 obtain ⟨i0, hi, hz0, hz1, hz2⟩ := info_parts Tryd.Builder_Extra_169.infoByte
 go_enter Tryd.func42, Tryd.ntmps42
 go_wp2_with (go_at_call 54; refine hcc.mono ?_)
 rintro e w1 ⟨rfl, hb1, o1, o2, o3, o4, o5⟩
 have c0 : w1.cell? ⟨b, 0, none⟩ = some (.pointer (some ⟨b, 0, none⟩)) := by rw [Lib.cell_of_heap hb1]; rfl
 have c1 : w1.cell? ⟨b, 1, none⟩ = some v := by rw [Lib.cell_of_heap hb1]; rfl
 have hown1 : w1.ownsRow 0 tByte 1 v l.length (Lib.byteCells l) := by
  refine ⟨hown.1, ?_⟩
  rcases hown.2 with h | ⟨g, cap, cur, h1, h2, h3, h4⟩
  ·exact .inl h
  ·exact .inr ⟨g, cap, cur, h1, h2, (o5 g (fun e => hne (by rw [h1, ← e]; rfl))).trans h3, h4⟩
 go_wp2_with (at_builtin; refine wpList_append_str rfl _ _ 92 9 rfl tByte i0 Tryd.underlying92 Tryd.underlying9 hi hz0 hz1 hz2 v l s rfl hown1 hs rfl hl ?_)
 intro v' w2 hA
 obtain ⟨g, cap, cur, rfl, hg, q1, q2, q3, q4, q5⟩ := hA.row
 have hlt : b < w1.heap.size := (Array.getElem?_eq_some_iff.1 hb1).1
 have hb2 : w2.heap[b]? = some (.cells #[.pointer (some ⟨b, 0, none⟩), v] tBld (0, 0)) := by
  rw [hA.grown.block b hlt (fun e => hne e.symm)]
  exact hb1
 have d0 : w2.cell? ⟨b, 0, none⟩ = some (.pointer (some ⟨b, 0, none⟩)) := by rw [Lib.cell_of_heap hb2]; rfl
 have d1 : w2.cell? ⟨b, 1, none⟩ = some v := by rw [Lib.cell_of_heap hb2]; rfl
 have f1 : w2.frozen? ⟨b, 1, none⟩ = false := Lib.frozen_of_heap hb2 1
 go_wp2
 go_ret2
 have hgb : g ≠ b := by
  rintro rfl
  rcases q5 with h | h
  ·exact hne h
  ·omega
 refine ⟨rfl, ⟨⟨g, cap, cur, setCell_eq w2 b _ v _ _ 1 hb2, (Below.heap_setCell _ _ _ _ hgb).trans hg, q1, q2, q3, q4, by rw [o4] at q5; exact q5⟩, hA.grown.os.trans o1, hA.grown.tape.trans o2, hA.grown.output.trans o3, ?_, fun k hk hkb hkv => ?_, fun k0 hk0 => ?_⟩⟩
 ·have := hA.grown.size
  simp only [World.setCell, Array.size_modify]
  omega
 ·rw [Below.heap_setCell _ _ _ _ hkb, hA.grown.block k (by omega) hkv, o5 k hkb]
 ·obtain ⟨x0, x1, h1, h2, h3, h4⟩ := hA.old k0 hk0
  have hkb : k0 ≠ b := fun e => hne (by rw [hk0, e])
  exact ⟨x0, x1, (o5 k0 hkb).symm.trans h1, (Below.heap_setCell _ _ _ _ hkb).trans h2, h3, h4⟩
end Go.Proofs.YtkipednlefbfpaaDoor.Vm

/- (*strings.Builder).WriteString and String, on values. (Vm) -/
namespace Go.Proofs.YtkipednlefbfpaaDoor.Vm
open Go Go.Proofs Go.RowKit
theorem set_get' {α : Type} {l : List α} {n i : Nat} {x y : α} (h : (l.set n x)[i]? = some y) : (i = n ∧ y = x) ∨ (i ≠ n ∧ l[i]? = some y) := by
 rw [List.getElem?_set] at h
 by_cases e : n = i
 ·rw [if_pos e] at h
  split at h
  ·cases h; exact .inl ⟨e.symm, rfl⟩
  ·cases h
 ·rw [if_neg e] at h
  exact .inr ⟨fun e2 => e e2.symm, h⟩
theorem bld_step {G : Ghost} {w w' : World} {K : Nat → Option Nat} {M : Mem} (hI : Inv G w K M) {i j b tB tE : Nat} {l l' : By} {m' : Nat} {kb : Option Nat} (hi : M.H[i]? = some (.bld tB tE j l)) (hj : M.H[j]? = some (.clm l.length 1)) (hKi : K i = some b)
  (hc : Calm w w') (ha : ∀ k, k < w.heap.size → k ≠ b → some k ≠ K j → w'.heap[k]? = w.heap[k]?) (hz : Szp w w')
  (hold : ∀ k0, K j = some k0 → ∀ o, o < l.length → w'.cell? ⟨k0, o, none⟩ = w.cell? ⟨k0, o, none⟩)
  (hkb : ∀ g, kb = some g → (K j = some g ∨ w.heap.size ≤ g) ∧ g < w'.heap.size) (hm : l.length < m')
  (hok : Ext w K M.H w' (upd K j kb) ((M.H.set i (.bld tB tE j l')).set j (.clm m' 1)) → ObjOk w' (upd K j kb) ((M.H.set i (.bld tB tE j l')).set j (.clm m' 1)) (some b) (.bld tB tE j l') ∧ ObjOk w' (upd K j kb) ((M.H.set i (.bld tB tE j l')).set j (.clm m' 1)) kb (.clm m' 1)) :
  Ext w K M.H w' (upd K j kb) ((M.H.set i (.bld tB tE j l')).set j (.clm m' 1)) ∧ Inv G w' (upd K j kb) ⟨(M.H.set i (.bld tB tE j l')).set j (.clm m' 1), M.lg⟩ := by
 have hij : i ≠ j := by
  rintro rfl
  rw [hi] at hj
  cases hj
 have hil := (List.getElem?_eq_some_iff.1 hi).1
 have hjl := (List.getElem?_eq_some_iff.1 hj).1
 have hget : ∀ k ob, ((M.H.set i (.bld tB tE j l')).set j (.clm m' 1))[k]? = some ob → (k = j ∧ ob = .clm m' 1) ∨ (k = i ∧ ob = .bld tB tE j l') ∨ (k ≠ j ∧ k ≠ i ∧ M.H[k]? = some ob) := fun k ob h => by
  rcases set_get' h with ⟨h1, h2⟩ | ⟨h1, h2⟩
  ·exact .inl ⟨h1, h2⟩
  ·rcases set_get' h2 with ⟨h3, h4⟩ | ⟨h3, h4⟩
   ·exact .inr (.inl ⟨h3, h4⟩)
   ·exact .inr (.inr ⟨h1, h3, h4⟩)
 have hlen : ((M.H.set i (.bld tB tE j l')).set j (.clm m' 1)).length = M.H.length := by simp
 have hbj : K j ≠ some b := fun e => hij (hI.inj i j b hil hjl (by rw [hi]; simp) (by rw [hj]; simp) hKi e)
 have hK' : ∀ k, k ≠ j → upd K j kb k = K k := fun k hk => upd_ne K kb hk
 have hE : Ext w K M.H w' (upd K j kb) ((M.H.set i (.bld tB tE j l')).set j (.clm m' 1)) := by
  refine ⟨hc.size, hz, fun b0 o hlt him k ob hk hKk => ?_, fun b0 o hlt him => ?_, fun k ob hk => ?_⟩
  ·rcases hget k ob hk with ⟨rfl, rfl⟩ | ⟨rfl, rfl⟩ | ⟨h1, h2, h3⟩
   ·rw [upd_same] at hKk
    rcases (hkb b0 hKk).1 with h | h
    ·rcases him k _ hj h with e | ⟨m, k', e, ho⟩
     ·exact e.elim
     ·cases e
      exact .inr ⟨m', 1, rfl, by omega⟩
    ·omega
   ·rw [hK' k hij] at hKk
    rcases him k _ hi hKk with e | ⟨m, k', e, _⟩
    ·exact e.elim
    ·cases e
   ·rw [hK' k h1] at hKk
    exact him k ob h3 hKk
  ·by_cases h1 : b0 = b
   ·subst h1
    rcases him i _ hi hKi with e | ⟨m, k', e, _⟩
    ·exact e.elim
    ·cases e
   ·by_cases h2 : K j = some b0
    ·rcases him j _ hj h2 with e | ⟨m, k', e, ho⟩
     ·exact e.elim
     ·cases e
      exact hold b0 h2 o (by omega)
    ·exact World.cell?_of_block (ha b0 hlt h1 (fun e => h2 e.symm))
  ·by_cases h1 : k = j
   ·subst h1
    rw [hj] at hk
    cases hk
    exact ⟨.clm m' 1, by rw [List.getElem?_set_self (by simp; exact hjl)], m', rfl, by omega, fun e => by omega⟩
   ·by_cases h2 : k = i
    ·subst h2
     rw [hi] at hk
     cases hk
     refine ⟨.bld tB tE j l', by rw [List.getElem?_set_ne (Ne.symm h1), List.getElem?_set_self hil], fun _ _ e => VObj.noConfusion e, hK' k h1⟩
    ·refine ⟨ob, by rw [List.getElem?_set_ne (Ne.symm h1), List.getElem?_set_ne (Ne.symm h2)]; exact hk, ?_⟩
     exact objLe_ng (hK' k h1) fun hg b2 hb2 => ha b2 (hI.lt hk hb2) (fun e => h2 (hI.inj k i b (List.getElem?_eq_some_iff.1 hk).1 hil (by rw [hk]; simpa using hg) (by rw [hi]; simp) (by rw [hb2, e]) hKi)) (fun e => h1 (hI.inj k j b2 (List.getElem?_eq_some_iff.1 hk).1 hjl (by rw [hk]; simpa using hg) (by rw [hj]; simp) hb2 e.symm))
 obtain ⟨ok1, ok2⟩ := hok hE
 refine ⟨hE, hc.os.trans hI.os, hc.tape.trans hI.tape, hc.output.trans hI.output, Nat.le_trans hI.size hc.size, Nat.le_trans hI.gB hc.size, fun b0 h1 h2 => ?_, fun p q b0 hp hq gp gq hKp hKq => ?_, fun k b0 hk hKk => ?_, fun k ob hk => ?_, fun k ob hk c hcc r hr => ?_, fun e he => ?_, fun k L hk => ?_⟩
 ·have hlt : b0 < w.heap.size := Nat.lt_of_lt_of_le h1 hI.gB
  rw [ha b0 hlt (fun e => ?_) (fun e => ?_)]
  ·exact hI.old b0 h1 h2
  ·subst e
   rcases (hI.blk i b0 hil hKi).2 with h | h
   ·omega
   ·exact h2 h
  ·rcases (hI.blk j b0 hjl e.symm).2 with h | h
   ·omega
   ·exact h2 h
 ·simp only [hlen] at hp hq
  have gone : ∀ k, ((M.H.set i (.bld tB tE j l')).set j (.clm m' 1))[k]? ≠ some .gone → k ≠ j → M.H[k]? ≠ some .gone := fun k hk hkj => by
   by_cases h2 : k = i
   ·subst h2; rw [hi]; simp
   ·rwa [List.getElem?_set_ne (Ne.symm hkj), List.getElem?_set_ne (Ne.symm h2)] at hk
  by_cases p1 : p = j <;> by_cases q1 : q = j
  ·rw [p1, q1]
  ·subst p1
   rw [upd_same] at hKp
   rw [hK' q q1] at hKq
   have := (hI.blk q b0 hq hKq).1
   rcases (hkb b0 hKp).1 with h | h
   ·exact hI.inj p q b0 hp hq (by rw [hj]; simp) (gone q gq q1) h hKq
   ·omega
  ·subst q1
   rw [upd_same] at hKq
   rw [hK' p p1] at hKp
   have := (hI.blk p b0 hp hKp).1
   rcases (hkb b0 hKq).1 with h | h
   ·exact hI.inj p q b0 hp hq (gone p gp p1) (by rw [hj]; simp) hKp h
   ·omega
  ·rw [hK' p p1] at hKp
   rw [hK' q q1] at hKq
   exact hI.inj p q b0 hp hq (gone p gp p1) (gone q gq q1) hKp hKq
 ·simp only [hlen] at hk
  by_cases h1 : k = j
  ·subst h1
   rw [upd_same] at hKk
   refine ⟨(hkb b0 hKk).2, ?_⟩
   rcases (hkb b0 hKk).1 with h | h
   ·exact (hI.blk k b0 hk h).2
   ·exact .inl (Nat.le_trans hI.gB h)
  ·rw [hK' k h1] at hKk
   exact ⟨Nat.lt_of_lt_of_le (hI.blk k b0 hk hKk).1 hc.size, (hI.blk k b0 hk hKk).2⟩
 ·rcases hget k ob hk with ⟨rfl, rfl⟩ | ⟨rfl, rfl⟩ | ⟨h1, h2, h3⟩
  ·rw [upd_same]; exact ok2
  ·rw [hK' k hij, hKi]; exact ok1
  ·rw [hK' k h1]
   exact (hI.obj k ob h3).extg hE (fun hg b2 hb2 => ha b2 (hI.lt h3 hb2) (fun e => h2 (hI.inj k i b (List.getElem?_eq_some_iff.1 h3).1 hil (by rw [h3]; simpa using hg) (by rw [hi]; simp) (by rw [hb2, e]) hKi)) (fun e => h1 (hI.inj k j b2 (List.getElem?_eq_some_iff.1 h3).1 hjl (by rw [h3]; simpa using hg) (by rw [hj]; simp) hb2 e.symm))) (hI.content h3)
 ·simp only [hlen]
  rcases hget k ob hk with ⟨rfl, rfl⟩ | ⟨rfl, rfl⟩ | ⟨h1, h2, h3⟩
  ·simp [contents] at hcc
  ·simp only [contents, List.mem_singleton] at hcc
   subst hcc
   exact hI.cl k _ hi (.so j 1 (bysV l)) (by simp [contents]) r (by simpa [refs] using hr)
  ·exact hI.cl k ob h3 c hcc r hr
 ·simp only [hlen]
  exact hI.lg e he
 ·rcases hget k _ hk with ⟨_, h⟩ | ⟨_, h⟩ | ⟨_, _, h⟩
  ·cases h
  ·cases h
  ·exact hI.lpd k L h
theorem bld_own {w : World} {K : Nat → Option Nat} {H : List VObj} {v : Value} {j tE : Nat} {l : By} (hj : H[j]? = some (.clm l.length 1)) (hr : RepV w K H v (.so j 1 (bysV l))) (hb : BufOk w tE v) :
  w.ownsRow 0 tE 1 v l.length (Lib.byteCells l) ∧ v.ownBlock = K j := by
 cases hr with
 | so _ _ _ _ hP hT =>
  have hlen : (bysV l).length = l.length := by simp [bysV]
  rw [hlen] at hT
  obtain ⟨_, h2⟩ := hT _ _ hj
  obtain ⟨_, h3⟩ := h2 rfl
  rcases h3 with ⟨g, c, vs, t, hK, rfl, hg, hc⟩ | ⟨hK, h0, A, rfl⟩
  ·rcases hb with h | ⟨g2, n2, c2, h, _, vs2, z2, hg2, hs2⟩
   ·cases h
   ·obtain ⟨e1, rfl, rfl⟩ := Value.slice.inj h
    cases e1
    rw [hg] at hg2
    cases hg2
    subst hs2
    refine ⟨⟨by rw [Lib.byteCells_length, Nat.mul_one], .inr ⟨g, vs.size, vs, rfl, Nat.zero_le _, hg, ?_, ?_, by rw [Nat.mul_one], ?_⟩⟩, hK.symm⟩
    ·obtain ⟨_, hm, _⟩ := nil_of_none hP
     omega
    ·generalize hrv : Value.slice (some ⟨g, 0, none⟩) l.length vs.size = rv at hP
     cases hP with
     | sl A c _ b off _ f h1 h2 h3 h4 h5 h6 h7 =>
      obtain ⟨rfl, e2, rfl⟩ := Value.slice.inj hrv
      exact h2
    ·generalize hrv : Value.slice (some ⟨g, 0, none⟩) l.length vs.size = rv at hP
     cases hP with
     | sl A c _ b off _ f hc hm hkk hA hI hw hr =>
      obtain ⟨rfl, e2, rfl⟩ := Value.slice.inj hrv
      apply List.ext_getElem?
      intro o
      rw [Nat.mul_one, List.getElem?_take]
      by_cases ho : o < l.length
      ·rw [if_pos ho, Array.getElem?_toList]
       have hne : bysV l ≠ [] := by intro e; rw [← hlen, e] at ho; simp at ho
       have hab := hA hne
       simp only [Option.some.injEq, Addr.mk.injEq] at hab
       obtain ⟨rfl, rfl, -⟩ := hab
       have hx : (bysV l)[o]? = some [.int .u8 (l[o]).toNat] := by simp [bysV, ho]
       have h8 := hw o _ 0 _ hx rfl
       have h9 : f o 0 = .int .u8 (l[o]).toNat := rep_int (H := H) (K := K) (.p _ _ (hr o _ 0 _ hx rfl))
       rw [h9, show 0 + o * 1 + 0 = o by omega, Lib.cell_of_heap hg] at h8
       rw [h8]
       simp [Lib.byteCells, ho]
      ·rw [if_neg ho, List.getElem?_eq_none (by rw [Lib.byteCells_length]; omega)]
  ·rcases hb with h | ⟨g2, n2, c2, h, hn2, _⟩
   ·rw [h, hK]
    refine ⟨⟨by rw [Lib.byteCells_length, Nat.mul_one], .inl ⟨rfl, h0⟩⟩, rfl⟩
   ·obtain ⟨_, e, _⟩ := Value.slice.inj h
    exact absurd (e.symm.trans h0) hn2
end Go.Proofs.YtkipednlefbfpaaDoor.Vm

/- (*strings.Builder).WriteString and String: contracts on values. (Vm) -/
namespace Go.Proofs.YtkipednlefbfpaaDoor.Vm
open Go Go.Proofs Go.RowKit
def bldH (H : List VObj) (i j : Nat) (l : By) : List VObj := (H.set i (.bld tBld tByte j l)).set j (.clm l.length 1)
theorem bldH_len (H : List VObj) (i j : Nat) (l : By) : (bldH H i j l).length = H.length := by simp [bldH]
theorem byte_rep {w : World} {K : Nat → Option Nat} {H : List VObj} {g cap j : Nat} {cur : Array Value} {l : By} (hK : K j = some g) (hj : H[j]? = some (.clm l.length 1)) (hon : ∀ k ob, H[k]? = some ob → K k = some g → k = j ∨ Fz ob)
  (hg : w.heap[g]? = some (.cells cur tByte (0, 0))) (h1 : l.length ≤ cap) (h2 : cap ≤ maxLen) (h3 : cur.size = cap) (h4 : cur.toList.take l.length = Lib.byteCells l) :
  RepV w K H (.slice (some ⟨g, 0, none⟩) l.length cap) (.so j 1 (bysV l)) := by
 have hlen : (bysV l).length = l.length := by simp [bysV]
 have hx : ∀ i x k u, (bysV l)[i]? = some x → x[k]? = some u → k = 0 ∧ i < l.length ∧ ∃ b, l[i]? = some b ∧ u = .int .u8 b.toNat := fun i x k u hx hu => by
  unfold bysV at hx
  rw [List.getElem?_map] at hx
  obtain ⟨b, hb, rfl⟩ := Option.map_eq_some_iff.1 hx
  have hk : k = 0 := by have := (List.getElem?_eq_some_iff.1 hu).1; simpa using this
  subst hk
  simp at hu
  exact ⟨rfl, (List.getElem?_eq_some_iff.1 hb).1, b, hb, hu.symm⟩
 refine .so _ j 1 _ ?_ fun m k' hm => ?_
 ·rw [← hlen]
  refine .sl _ cap 1 g 0 _ (fun i _ => (Lib.byteCells l).getD i undef) (by rw [hlen]; exact h1) h2 (fun x hx => ?_) (fun _ => rfl) (fun i x k u hx1 hu => ?_) (fun i x k u hx1 hu => ?_) fun i x k u hx1 hu => ?_
  ·obtain ⟨b, _, rfl⟩ := List.mem_map.1 hx
   rfl
  ·obtain ⟨rfl, hi, b, hb, rfl⟩ := hx i x k u hx1 hu
   intro k2 ob hk2 hKk
   rcases hon k2 ob hk2 hKk with rfl | hf
   ·rw [hj] at hk2
    cases hk2
    exact .inr ⟨_, _, rfl, by omega⟩
   ·exact .inl hf
  ·obtain ⟨rfl, hi, b, hb, rfl⟩ := hx i x k u hx1 hu
   rw [show 0 + i * 1 + 0 = i by omega, Lib.cell_of_heap hg, ← h4, List.getD_eq_getElem?_getD, List.getElem?_take, if_pos hi]
   have : i < cur.size := by omega
   simp [this]
  ·obtain ⟨rfl, hi, b, hb, rfl⟩ := hx i x k u hx1 hu
   rw [List.getD_eq_getElem?_getD]
   simp only [Lib.byteCells, List.getElem?_map, hb, Option.map_some, Option.getD_some]
   exact .int _ _
 ·rw [hj] at hm
  cases hm
  rw [hlen]
  exact ⟨Nat.le_refl _, fun _ => ⟨rfl, .inl ⟨g, cap, cur, _, hK, rfl, hg, by omega⟩⟩⟩
theorem writeS_v {i j : Nat} {l s : By} {H : List VObj} {lg : List (Nat × Nat)} (hi : H[i]? = some (.bld tBld tByte j l)) (hj : H[j]? = some (.clm l.length 1)) (hs : s ≠ []) (hl : l.length + s.length ≤ 140737488355328) :
  VC Tryd.prog 42 [.ptr i 0, .p (.str (tx s))] ⟨H, lg⟩ (fun r M' => M' = ⟨bldH H i j (l ++ s), lg⟩ ∧ r = .any) := by
 intro G w K rargs hI ha
 obtain ⟨v1, v2, rfl, hv1, hv2⟩ := args2 ha
 obtain rfl := rep_str hv2
 cases hv1 with
 | ptr _ _ b hKi hn =>
  obtain ⟨b', v, p, e, hb, hp, hr, hbuf⟩ := hI.obj i _ hi
  rw [hKi] at e
  cases e
  obtain ⟨hown, hob⟩ := bld_own hj hr hbuf
  have hij : i ≠ j := by
   rintro rfl
   rw [hi] at hj
   cases hj
  have hil := (List.getElem?_eq_some_iff.1 hi).1
  have hjl := (List.getElem?_eq_some_iff.1 hj).1
  have hne : v.ownBlock ≠ some b := fun e => hij (hI.inj i j b hil hjl (by simp only; rw [hi]; simp) (by simp only; rw [hj]; simp) hKi (hob.symm.trans e))
  refine callsIn_wide.2 ((writeString_raw w b p v l s hb hp hown hne hs hl).mono ?_)
  rintro e w' ⟨rfl, hW⟩
  obtain ⟨g, cap, cur, r1, r2, r3, r4, r5, r6, r7⟩ := hW.row
  have hs1 : 0 < s.length := List.length_pos_iff.2 hs
  have hblk : b < w.heap.size := (hI.blk i b hil hKi).1
  have hgs : g < w'.heap.size := (Array.getElem?_eq_some_iff.1 r2).1
  have step := bld_step (l' := l ++ s) (m' := (l ++ s).length) (kb := some g) hI hi hj hKi ⟨hW.os, hW.tape, hW.output, hW.size⟩ (fun k h1 h2 h3 => hW.block k h1 h2 (by rw [hob]; exact h3)) (fun k vs t z hk => ?_) (fun k0 hk0 o ho => ?_) (fun g' hg' => ?_) (by rw [List.length_append]; omega) (fun hE => ?_)
  ·obtain ⟨hE, hI'⟩ := step
   exact ⟨_, .any, _, _, rfl, ⟨rfl, rfl⟩, .any _, cl_any _, hE, hI'⟩
  ·by_cases hkb : k = b
   ·subst hkb
    rw [hb] at hk
    cases hk
    exact ⟨_, _, r1, rfl⟩
   ·by_cases hko : v.ownBlock = some k
    ·obtain ⟨c0, c1, h1, h2, h3, _⟩ := hW.old k hko
     rw [h1] at hk
     cases hk
     exact ⟨_, _, h2, h3⟩
    ·exact ⟨vs, z, (hW.block k (Array.getElem?_eq_some_iff.1 hk).1 hkb (fun e => hko e.symm)).trans hk, rfl⟩
  ·obtain ⟨c0, c1, h1, h2, _, h4⟩ := hW.old k0 (hob.trans hk0)
   rw [Lib.cell_of_heap h1, Lib.cell_of_heap h2, h4 o ho]
  ·cases hg'
   refine ⟨?_, hgs⟩
   rcases r7 with h | h
   ·exact .inl (hob.symm.trans h)
   ·exact .inr h
  ·have hj2 : ((H.set i (.bld tBld tByte j (l ++ s))).set j (.clm (l ++ s).length 1))[j]? = some (.clm (l ++ s).length 1) := by rw [List.getElem?_set_self (by simp; exact hjl)]
   have hon : ∀ k ob, ((H.set i (.bld tBld tByte j (l ++ s))).set j (.clm (l ++ s).length 1))[k]? = some ob → upd K j (some g) k = some g → k = j ∨ Fz ob := fun k ob hk hKk => by
    by_cases hkj : k = j
    ·exact .inl hkj
    ·rw [upd_ne K _ hkj] at hKk
     have hkl : k < H.length := by have := (List.getElem?_eq_some_iff.1 hk).1; simpa using this
     rw [List.getElem?_set_ne (Ne.symm hkj)] at hk
     rcases r7 with h | h
     ·by_cases hki : k = i
      ·subst hki
       rw [hKi] at hKk
       cases hKk
       exact absurd h hne
      ·rw [List.getElem?_set_ne (Ne.symm hki)] at hk
       by_cases hg : ob = .gone
       ·subst hg
        exact .inr trivial
       ·exact .inl (hI.inj k j g hkl hjl (by simp only; rw [hk]; simpa using hg) (by simp only; rw [hj]; simp) hKk (hob.symm.trans h))
     ·have := (hI.blk k g hkl hKk).1
      omega
   refine ⟨⟨b, _, _, rfl, r1, .inr rfl, ?_, .inr ⟨g, _, _, rfl, by omega, cur, _, r2, r5⟩⟩, fun b0 hb0 => ?_⟩
   ·rw [show l.length + s.length = (l ++ s).length by rw [List.length_append]]
    exact byte_rep (upd_same _ _ _) hj2 hon r2 (by rw [List.length_append]; exact r3) r4 r5 (by rw [List.length_append]; exact r6)
   ·cases hb0
    exact ⟨cur, _, r2, by rw [List.length_append]; omega⟩
set_option maxHeartbeats 2000000 in
set_option maxRecDepth 100000 in
theorem string_raw (w : World) (b g cap : Nat) (p : Value) (cur : Array Value) (l : By) (hb : w.heap[b]? = some (.cells #[p, .slice (some ⟨g, 0, none⟩) l.length cap] tBld (0, 0))) (hg : w.heap[g]? = some (.cells cur tByte (0, 0))) (h1 : l.length ≤ cap) (h2 : cap ≤ maxLen) (h3 : cur.size = cap) (h4 : cur.toList.take l.length = Lib.byteCells l) (h0 : l ≠ []) :
  Calls Tryd.prog 44 #[.pointer (some ⟨b, 0, none⟩)] w fun e w' => e = .returned (.string (tx l)) ∧ w' = w.drew.freeze ⟨g, 0, none⟩ l.length := by
 have hl0 : l.length ≠ 0 := by simpa using h0
 have c1 : w.drew.cell? ⟨b, 1, none⟩ = some (.slice (some ⟨g, 0, none⟩) l.length cap) := by
  have : w.drew.heap[b]? = some (.cells #[p, .slice (some ⟨g, 0, none⟩) l.length cap] tBld (0, 0)) := hb
  rw [Lib.cell_of_heap this]; rfl
 have hSD : (Builtin.unsafeSliceData_ #[92] 112 #[.slice (some ⟨g, 0, none⟩) l.length cap]).run Tryd.prog w.drew = .ok (.pointer (some ⟨g, 0, none⟩)) w.drew :=
  Lib.run_unsafeSliceData_row _ _ _ _ _ _ (by omega)
 have hUS : (Builtin.unsafeString_ #[112, 3] 9 #[.pointer (some ⟨g, 0, none⟩), .int .i64 l.length]).run Tryd.prog w.drew = .ok (.string ⟨l.toArray⟩) (w.drew.freeze ⟨g, 0, none⟩ l.length) := by
  refine Lib.run_unsafeString_row w.drew 112 3 9 5 Tryd.underlying112 Tryd.Builder_Extra_169.cellsByte g cur.size (by have hg' : w.drew.heap[g]? = some (.cells cur tByte (0, 0)) := hg; simp [World.shape?, hg']) l h0 (by omega) (by unfold maxLen at h2; omega) ?_
  intro j x hx
  have hj := (List.getElem?_eq_some_iff.1 hx).1
  have h5 : (cur.toList.take l.length)[j]? = some (.int .u8 x.toNat) := by rw [h4]; simp [Lib.byteCells, hx]
  rw [List.getElem?_take, if_pos hj, Array.getElem?_toList] at h5
  have hg' : w.drew.heap[g]? = some (.cells cur tByte (0, 0)) := hg
  rw [show (⟨g, 0, none⟩ : Addr).add j = ⟨g, j, none⟩ by unfold Addr.add; split <;> simp_all, Lib.cell_of_heap hg']
  exact h5
 go_enter Tryd.func44, Tryd.ntmps44
 go_wp2
 go_region
 all_goals (go_wp2; go_ret; exact ⟨rfl, rfl⟩)
theorem freeze_heap (w : World) (g n k : Nat) (hk : k ≠ g) : (w.drew.freeze ⟨g, 0, none⟩ n).heap[k]? = w.heap[k]? := by
 unfold World.freeze
 split
 ·rfl
 ·simp only [Array.getElem?_modify]
  rw [if_neg (fun e => hk e.symm)]
  rfl
theorem freeze_row (w : World) (g n : Nat) {cur : Array Value} {t : TypeId} {z : Nat × Nat} (h : w.heap[g]? = some (.cells cur t z)) : ∃ z', (w.drew.freeze ⟨g, 0, none⟩ n).heap[g]? = some (.cells cur t z') := by
 have h' : w.drew.heap[g]? = some (.cells cur t z) := h
 unfold World.freeze
 split
 ·exact ⟨_, h'⟩
 ·simp only [Array.getElem?_modify, if_true, h', Option.map_some]
  exact ⟨_, rfl⟩
theorem freeze_calm (w : World) (g n : Nat) : Calm w (w.drew.freeze ⟨g, 0, none⟩ n) := by
 unfold World.freeze
 split
 ·exact ⟨rfl, rfl, rfl, Nat.le_refl _⟩
 ·exact ⟨rfl, rfl, rfl, by simp only [Array.size_modify]; exact Nat.le_refl _⟩
def bldE (H : List VObj) (i j : Nat) (l : By) : List VObj := (H.set i (.bld tBld tByte j l)).set j (.clm (l.length + 1) 1)
theorem string_v {i j : Nat} {l : By} {H : List VObj} {lg : List (Nat × Nat)} (hi : H[i]? = some (.bld tBld tByte j l)) (hj : H[j]? = some (.clm l.length 1)) (h0 : l ≠ []) :
  VC Tryd.prog 44 [.ptr i 0] ⟨H, lg⟩ (fun r M' => M' = ⟨bldE H i j l, lg⟩ ∧ r = .p (.str (tx l))) := by
 intro G w K rargs hI ha
 obtain ⟨v1, rfl, hv1⟩ := args1 ha
 cases hv1 with
 | ptr _ _ b hKi hn =>
  obtain ⟨b', v, p, e, hb, hp, hr, hbuf⟩ := hI.obj i _ hi
  rw [hKi] at e
  cases e
  obtain ⟨hown, hob⟩ := bld_own hj hr hbuf
  have hl0 : l.length ≠ 0 := by simpa using h0
  have hij : i ≠ j := by
   rintro rfl
   rw [hi] at hj
   cases hj
  have hil := (List.getElem?_eq_some_iff.1 hi).1
  have hjl := (List.getElem?_eq_some_iff.1 hj).1
  have hne : v.ownBlock ≠ some b := fun e => hij (hI.inj i j b hil hjl (by simp only; rw [hi]; simp) (by simp only; rw [hj]; simp) hKi (hob.symm.trans e))
  rcases hown.2 with ⟨_, hz⟩ | ⟨g, cap, cur, rfl, _, hg, h1, h2, h3, h4⟩
  ·exact absurd hz hl0
  simp only [Nat.mul_one] at h3 h4
  have hKj : K j = some g := hob.symm
  have hgb : g ≠ b := fun e => hne (by rw [← e]; rfl)
  refine callsIn_wide.2 ((string_raw w b g cap p cur l hb hg h1 h2 h3 h4 h0).mono ?_)
  rintro e w' ⟨rfl, rfl⟩
  obtain ⟨z', hg'⟩ := freeze_row w g l.length hg
  have hblk : g < w.heap.size := (Array.getElem?_eq_some_iff.1 hg).1
  have step := bld_step (l' := l) (m' := l.length + 1) (kb := none) hI hi hj hKi (freeze_calm w g l.length) (fun k _ _ h3 => freeze_heap w g _ k (fun e => h3 (by rw [e, hKj]))) (fun k vs t z hk => ?_) (fun k0 hk0 o ho => ?_) (fun g' hg' => by cases hg') (by omega) (fun hE => ?_)
  ·obtain ⟨hE, hI'⟩ := step
   exact ⟨_, _, _, _, rfl, ⟨rfl, rfl⟩, .p _ _ (.str _), cl_p _ _, hE, hI'⟩
  ·by_cases hkg : k = g
   ·subst hkg
    rw [hg] at hk
    cases hk
    exact ⟨_, _, hg', rfl⟩
   ·exact ⟨vs, z, (freeze_heap w g _ k hkg).trans hk, rfl⟩
  ·rw [hKj] at hk0
   cases hk0
   rw [Lib.cell_of_heap hg, Lib.cell_of_heap hg']
  ·refine ⟨⟨b, _, p, rfl, (freeze_heap w g _ b (fun e => hgb e.symm)).trans hb, hp, ?_, hbuf.sz hE.sz⟩, fun b0 hb0 => by cases hb0⟩
   refine hr.ext hE (fun r hr2 => ?_)
   simp only [refs, List.mem_singleton] at hr2
   subst hr2
   exact hjl
end Go.Proofs.YtkipednlefbfpaaDoor.Vm

/- The program's row (a closure that writes into a Builder), on values. (Vm) -/
namespace Go.Proofs.YtkipednlefbfpaaDoor.Vm
open Go Go.Proofs
section
variable {H : List VObj} {i j : Nat} {l l' : By}
theorem bldH_set (h : i ≠ j) : bldH (bldH H i j l) i j l' = bldH H i j l' := by
 unfold bldH
 apply List.ext_getElem?
 intro k
 simp only [List.getElem?_set, List.length_set]
 by_cases h1 : j = k
 ·subst h1; simp
 ·by_cases h2 : i = k
  ·subst h2; simp [h1]
  ·simp [h1, h2]
theorem bldH_i (h : i ≠ j) (hi : i < H.length) : (bldH H i j l)[i]? = some (.bld tBld tByte j l) := by
 unfold bldH
 rw [List.getElem?_set_ne (Ne.symm h), List.getElem?_set_self hi]
theorem bldH_j (hj : j < H.length) : (bldH H i j l)[j]? = some (.clm l.length 1) := by
 unfold bldH
 rw [List.getElem?_set_self (by simp; exact hj)]
theorem writeS2_v (s : By) {lg : List (Nat × Nat)} (h : i ≠ j) (hi : i < H.length) (hj : j < H.length) (hs : s ≠ []) (hl : l.length + s.length ≤ 140737488355328) :
  VC Tryd.prog 42 [.ptr i 0, vs s] ⟨bldH H i j l, lg⟩ (fun r M' => M' = ⟨bldH H i j (l ++ s), lg⟩ ∧ r = .any) := by
 refine (writeS_v (bldH_i h hi) (bldH_j hj) hs hl).mono ?_
 rintro r M' ⟨rfl, rfl⟩
 rw [bldH_set h]
 exact ⟨rfl, rfl⟩
end
theorem own_endB {f : Nat} {fn : Func} {H : List VObj} {i j : Nat} {l l' : By} {lg : List (Nat × Nat)} {e : Env} {Q : VV → Mem → Prop} (h1 : fn.results.toList = []) (hq : Q (.tup []) ⟨bldH H i j l', lg⟩) : ownQ T f fn ⟨bldH H i j l, lg⟩ Q .normal e ⟨bldH H i j l', lg⟩ [] :=
 ⟨.inl rfl, rfl, ⟨[], by simp, by simp⟩, bldH H i j l', [], by simp, by rw [bldH_len, bldH_len], [], by rw [h1]; rfl, .tup [], by simp [vtup, frz, frzL], by simp [refs, refsL], hq⟩
set_option maxHeartbeats 1000000 in
theorem prow_v (w : By) (l : List Int) {H : List VObj} {i j : Nat} {pre : By} {lg : List (Nat × Nat)} (h : i ≠ j) (hi : i < H.length) (hj : j < H.length) (hw0 : w ≠ []) (hw : w.length ≤ 1000000) (hl : l.length ≤ 1000000) (hp : pre.length ≤ 1000000000) (hf : FitL l) :
  VC Tryd.prog 41 [vs w, intsV l, .ptr i 0] ⟨bldH H i j pre, lg⟩ (fun r M' => M' = ⟨bldH H i j (pre ++ rowS w l), lg⟩ ∧ r = .tup []) := by
 refine VC_own' T_ok (f := 41) (fn := Tryd.f41) (by kernel_rfl) rfl Tryd.ntmps41 (by rfl) (by rfl) ?_
 ((repeat refine Ws ?_);refine W_regionE T_ok ?_; intro Kn hKn)
 simp (maxSteps := 1000000) only [VL,VM,↓VG,reduceIte,reduceCtorEq,zA,zB,zC,zD,zE,zF,zG,zH,zI,zJ]
 apply call_eq (f := 42) (fn := Tryd.f42) (by kernel_rfl) (by rfl)
 ·exact writeS2_v w h hi hj hw0 (by omega)
 ((simp (maxSteps := 1000000) only [VL,VM,↓VG,reduceIte,reduceCtorEq,zA,zB,zC,zD,zE,zF,zG,zH,zI,zJ]); rw [hKn];clear hKn Kn;simp only [QV,reduceIte,reduceCtorEq,Nat.reduceEqDiff])
 ((repeat refine Ws ?_);refine W_regionE T_ok ?_; intro Kn hKn)
 ((simp (maxSteps := 1000000) only [VL,VM,↓VG,reduceIte,reduceCtorEq,zA,zB,zC,zD,zE,zF,zG,zH,zI,zJ]); rw [hKn];clear hKn Kn;simp only [QV,reduceIte,reduceCtorEq,Nat.reduceEqDiff])
 ((repeat refine Ws ?_);refine W_block ?_; (repeat refine Ws ?_)); refine W_loopS (fun s : Nat => [(0, vs w), (1, intsV l), (2, .ptr i 0), (9, intsV l), (10, vi l.length), (11, vi s)]) (fun s => ⟨bldH H i j (pre ++ w ++ numsS (l.take s)), lg⟩) (fun s => l.length - s) (fun s => s ≤ l.length) 0 (Nat.zero_le _) ⟨rfl, rfl, rfl, rfl, rfl, rfl, trivial⟩ (by simp [numsS]) ?_
 intro k hk
 have k1 : -9223372036854775808 ≤ (k : Int) + 1 ∧ (k : Int) + 1 < 9223372036854775808 := by omega
 ((repeat refine Ws ?_);refine W_regionE T_ok ?_; intro Kn hKn)
 rcases Nat.lt_or_ge k l.length with hlt | hge
 ·have k2 : ((k : Int) < (l.length : Int)) = True := eq_true (by omega)
  have hx := map_at (f := intP) (List.getElem?_eq_getElem hlt)
  have hm := hf _ (List.getElem_mem hlt)
  have key := numsS_take hlt
  have b1 := numsS_len (hf.take k)
  rw [List.length_take] at b1
  have b2 := itoa_len hm.1 hm.2
  have q1 := v_addS 9 [32] (Lib.itoa l[k]) (by simp; omega)
  have hb : (pre ++ (w ++ numsS (l.take k))).length + ([32] ++ Lib.itoa l[k]).length ≤ 140737488355328 := by
   simp only [List.length_append, List.length_cons, List.length_nil]
   omega
  ((simp (maxSteps := 1000000) only [VL,VM,↓VG,reduceIte,reduceCtorEq,zA,zB,zC,zD,zE,zF,zG,zH,zI,zJ, k2]); rw [hKn];clear hKn Kn;simp only [QV,reduceIte,reduceCtorEq,Nat.reduceEqDiff])
  ((repeat refine Ws ?_);refine Wt (by first|rfl|simp only [EV,zF,reduceIte]) ?_)
  (((repeat refine Ws ?_);refine W_skip ?_); simp only [QV,reduceIte,reduceCtorEq,Nat.reduceEqDiff])
  ((repeat refine Ws ?_);refine W_block ?_)
  ((repeat refine Ws ?_);refine W_regionE T_ok ?_; intro Kn hKn)
  ((simp (maxSteps := 1000000) only [VL,VM,↓VG,reduceIte,reduceCtorEq,zA,zB,zC,zD,zE,zF,zG,zH,zI,zJ, hx]); rw [hKn];clear hKn Kn;simp only [QV,reduceIte,reduceCtorEq,Nat.reduceEqDiff])
  ((repeat refine Ws ?_);refine W_regionE T_ok ?_; intro Kn hKn)
  simp (maxSteps := 1000000) only [VL,VM,↓VG,reduceIte,reduceCtorEq,zA,zB,zC,zD,zE,zF,zG,zH,zI,zJ]
  apply call_eq (f := 43) (fn := Tryd.f43) (by kernel_rfl) (by rfl)
  ·exact itoa_v hm.1 hm.2 _
  simp (maxSteps := 1000000) only [VL,VM,↓VG,reduceIte,reduceCtorEq,zA,zB,zC,zD,zE,zF,zG,zH,zI,zJ, lit32, q1]
  apply call_eq (f := 42) (fn := Tryd.f42) (by kernel_rfl) (by rfl)
  ·exact writeS2_v ([32] ++ Lib.itoa l[k]) h hi hj (by simp) hb
  ((simp (maxSteps := 1000000) only [VL,VM,↓VG,reduceIte,reduceCtorEq,zA,zB,zC,zD,zE,zF,zG,zH,zI,zJ]); rw [hKn];clear hKn Kn;simp only [QV,reduceIte,reduceCtorEq,Nat.reduceEqDiff])
  ((repeat refine Ws ?_);refine W_regionE T_ok ?_; intro Kn hKn)
  ((simp (maxSteps := 1000000) only [VL,VM,↓VG,reduceIte,reduceCtorEq,zA,zB,zC,zD,zE,zF,zG,zH,zI,zJ, k1]); rw [hKn];clear hKn Kn;simp only [QV,reduceIte,reduceCtorEq,Nat.reduceEqDiff])
  refine LoopK.mk (k + 1) (by omega) (by omega) ⟨rfl, rfl, rfl, rfl, rfl, rfl, trivial⟩ ?_
  rw [key]; simp
 ·have k2 : ((k : Int) < (l.length : Int)) = False := eq_false (by omega)
  obtain rfl : k = l.length := by omega
  have b1 := numsS_len hf
  have hb : (pre ++ (w ++ numsS l)).length + ([10] : By).length ≤ 140737488355328 := by
   simp only [List.length_append, List.length_cons, List.length_nil]
   omega
  ((simp (maxSteps := 1000000) only [VL,VM,↓VG,reduceIte,reduceCtorEq,zA,zB,zC,zD,zE,zF,zG,zH,zI,zJ, k2, List.take_length]); rw [hKn];clear hKn Kn;simp only [QV,reduceIte,reduceCtorEq,Nat.reduceEqDiff])
  ((repeat refine Ws ?_);refine Wf (by first|rfl|simp only [EV,zF,reduceIte]) ?_)
  (((repeat refine Ws ?_);refine W_exit ?_); simp only [QV,reduceIte,reduceCtorEq,Nat.reduceEqDiff])
  ((repeat refine Ws ?_);refine W_regionE T_ok ?_; intro Kn hKn)
  simp (maxSteps := 1000000) only [VL,VM,↓VG,reduceIte,reduceCtorEq,zA,zB,zC,zD,zE,zF,zG,zH,zI,zJ, lit10]
  apply call_eq (f := 42) (fn := Tryd.f42) (by kernel_rfl) (by rfl)
  ·exact writeS2_v [10] h hi hj (by simp) hb
  simp (maxSteps := 1000000) only [VL,VM,↓VG,reduceIte,reduceCtorEq,zA,zB,zC,zD,zE,zF,zG,zH,zI,zJ]
  rw [hKn]
  refine own_endB rfl ⟨?_, rfl⟩
  simp [rowS]
end Go.Proofs.YtkipednlefbfpaaDoor.Vm
