/- A part of the proofs about the chapter of the vaults; it states no condition of its own. -/
import Derived.Test.YtnjgdlmddlinaaaDoorB14
import Derived.Test.YtnjgdlmddlinaaaDoorB15
import Derived.Test.YtnjgdlmddlinaaaDoorB25
import Derived.Lib.Split
import Derived.Lib.SplitLaws
import Derived.Lib.ItoaNum
import Derived.Lib.AtoiAll
import Derived.Test.YtnjgdlmddlinaaaDoorRows
import Derived.Lib.AtoiTie
import Derived.Lib.ItoaLen
import Derived.Lib.Builder
import Derived.Shelf.Strings.BuilderK
set_option linter.unusedVariables false
set_option linter.unusedSimpArgs false
/- Plain: texts as lists of bytes; the parts of a text, numbers as texts. Nothing here names the program. -/
namespace Go.Proofs.YtnjgdlmddlinaaaDoor
open Go
abbrev By := List UInt8
def tx (l : By) : ByteArray := ⟨l.toArray⟩
theorem tx_size (l : By) : (tx l).size = l.length := by simp [tx, ByteArray.size]
theorem tx_list (l : By) : (tx l).data.toList = l := by simp [tx]
theorem tx_append (a b : By) : tx a ++ tx b = tx (a ++ b) := by
 apply ByteArray.ext
 simp [tx, ByteArray.data_append]
end Go.Proofs.YtnjgdlmddlinaaaDoor

/- Plain: numbers as texts. -/
namespace Go.Proofs.YtnjgdlmddlinaaaDoor
open Go
end Go.Proofs.YtnjgdlmddlinaaaDoor

/- Calls of the library that turn nothing of ours: strconv.Itoa. (Vm) -/
namespace Go.Proofs.YtnjgdlmddlinaaaDoor.Vm
open Go Go.Proofs Go.RowKit
theorem VC_lib {P : Program} {f : Nat} {args : List VV} {M : Mem} {Q : VV → Mem → Prop} (h : ∀ (G : Ghost) (w : World) (K : Nat → Option Nat) (rargs : Array Value), Inv G w K M → ArgsOk w K M rargs args →
  Calls P f rargs w fun e w' => ∃ rv r, e = .returned rv ∧ Below w.heap.size w w' ∧ Q r M ∧ RepV w' K M.H rv r ∧ Cl M.H.length r) : VC P f args M Q := by
 intro G w K rargs hI ha
 refine callsIn_wide.2 ((h G w K rargs hI ha).mono ?_)
 rintro e w' ⟨rv, r, rfl, hb, hq, hr, hc⟩
 obtain ⟨hE, hI'⟩ := step_made hI (w' := w') ⟨hb.os, hb.tape, hb.output, hb.size⟩ hb.block
 exact ⟨rv, r, K, M, rfl, hq, hr, hc, hE, hI'⟩
theorem args1 {w : World} {K : Nat → Option Nat} {M : Mem} {rargs : Array Value} {x : VV} (h : ArgsOk w K M rargs [x]) : ∃ v, rargs = #[v] ∧ RepV w K M.H v x := by
 obtain ⟨l⟩ := rargs
 obtain ⟨h1, h2⟩ := h.rep
 match l, h1, h2 with
 | [v], _, h2 => exact ⟨v, rfl, h2 0 v x rfl rfl⟩
theorem args2 {w : World} {K : Nat → Option Nat} {M : Mem} {rargs : Array Value} {x y : VV} (h : ArgsOk w K M rargs [x, y]) : ∃ v u, rargs = #[v, u] ∧ RepV w K M.H v x ∧ RepV w K M.H u y := by
 obtain ⟨l⟩ := rargs
 obtain ⟨h1, h2⟩ := h.rep
 match l, h1, h2 with
 | [v, u], _, h2 => exact ⟨v, u, rfl, h2 0 v x rfl rfl, h2 1 u y rfl rfl⟩
theorem below_grow (w : World) (k : Nat) (os : Array Obj) : Below w.heap.size w (Sort.grow (w.drewN k) os) :=
 ⟨rfl, rfl, rfl, by show w.heap.size ≤ (w.heap ++ os).size; simp, fun i hi => by
  show (w.heap ++ os)[i]? = _
  rw [Array.getElem?_append_left hi]⟩
theorem itoa_v {n : Int} (h0 : -9223372036854775808 ≤ n) (h1 : n ≤ 9223372036854775807) (M : Mem) : VC Tryd.prog 35 [.p (.int .i64 n)] M (fun r M' => M' = M ∧ r = .p (.str (tx (Lib.itoa n)))) := by
 refine VC_lib fun G w K rargs hI ha => ?_
 obtain ⟨v, rfl, hv⟩ := args1 ha
 obtain rfl := rep_int hv
 obtain ⟨⟨t, z, hp⟩, _⟩ := G.lz.at hI.old
 have hp := LzF_some hp
 refine (Any.strconv_Itoa Tryd.laysM171 n h0 h1 w ?_).mono ?_
 ·have hg := Tryd.laysM171.m17
  unfold Lib.TabIs World.var?
  rw [hg, show Tryd.laysM171_ren.g 17 = 0 from rfl]
  simp only [Option.bind_some, hp]
 ·rintro e w' ⟨rfl, k, os, rfl⟩
  exact ⟨_, _, rfl, below_grow w k os, ⟨rfl, rfl⟩, .p _ _ (.str _), cl_p _ _⟩
end Go.Proofs.YtnjgdlmddlinaaaDoor.Vm

/- Texts in the machine on values: what the operations give. (Vm) -/
namespace Go.Proofs.YtnjgdlmddlinaaaDoor.Vm
open Go Go.Proofs
abbrev vs (l : By) : VV := .p (.str (tx l))
section
variable (t : Nat) (a b : By)
theorem str_eq : ((tx a).toList == (tx b).toList) = decide (a = b) := by
 rw [ByteArray.toList_eq, ByteArray.toList_eq, tx_list, tx_list]
 by_cases h : a = b
 ·subst h; simp
 ·simp [h]
theorem v_addS (h : a.length + b.length ≤ 9223372036854775807) : vbin T .add t (vs a) (vs b) = some (vs (a ++ b)) := by
 have h1 : Op.stringOp .add (tx a) (tx b) = .pure (.string (tx (a ++ b))) := by
  unfold Op.stringOp
  simp only
  rw [if_neg, tx_append]
  ·rfl
  ·rw [tx_size, tx_size, show IntKind.i64.max = 9223372036854775807 from rfl]
   omega
 show (pureOf (Op.stringOp .add (tx a) (tx b))).map ofValue = _
 rw [h1]
 rfl
theorem v_eqS : vbin T .eql t (vs a) (vs b) = some (vb (decide (a = b))) := by
 show some (vb ((tx a).toList == (tx b).toList)) = _
 rw [str_eq]
end
end Go.Proofs.YtnjgdlmddlinaaaDoor.Vm

/- A function's end that hands out two results. (Vm) -/
namespace Go.Proofs.YtnjgdlmddlinaaaDoor.Vm
open Go Go.Proofs
theorem own_ret2t {T : Tab} {f : Nat} {fn : Func} {M : Mem} {L : List VObj} {e : Env} {t t' : Nat} {X Y : VV} (h1 : fn.results.toList = [.tmp t, .tmp t']) (hr : frz M.H.length (M.H ++ L) (get e t) = X) (hr' : frz M.H.length (M.H ++ L) (get e t') = Y) (h2 : refs X = []) (h2' : refs Y = []) : ownQ T f fn M (fun r M' => M' = M ∧ r = .tup [X, Y]) .ret e ⟨M.H ++ L, M.lg⟩ [] :=
 own_ret (vs := [get e t, get e t']) (by rw [h1]; rfl) (by simp only [vtup, frz, frzL, hr, hr']) (by simp [refs, refsL, h2, h2']) ⟨rfl, rfl⟩
theorem W_eqM {P : Program} {cx : Cx} {e : Env} {M M' : Mem} {D : List Nat} {Q : PQ} {c : Code} (h : M = M') (k : WCode P cx c e M' D Q) : WCode P cx c e M D Q := h ▸ k
theorem callf_eq {f : Nat} {fn : Func} {caps args : List VV} {M M1 : Mem} {v : VV} (hf : T.fn f = some fn) (hk : T.keeps f = false) (h : VC Tryd.prog f ((args ++ caps).map strip1) M (fun r M' => M' = M1 ∧ r = v)) {Q : VV → Mem → Prop} (hq : Q v M1) : VCall Tryd.prog (.fn (.func f) [] caps) args M Q :=
 (VCall_fn T_ok hf (by
   have : (sarg T f) = strip1 := funext fun v => by simp [sarg, hk]
   simpa [this] using h)).mono fun r M' e => by obtain ⟨rfl, rfl⟩ := e; exact hq
end Go.Proofs.YtnjgdlmddlinaaaDoor.Vm

/- Plain: the drawing of a hall. -/
namespace Go.Proofs.YtnjgdlmddlinaaaDoor
open Go
def wHall : By := [104, 97, 108, 108]
def wWater : By := [119, 97, 116, 101, 114]
def wShut : By := [115, 104, 117, 116]
def wBears : By := [98, 101, 97, 114, 115]
def wKind : By := [107, 105, 110, 100]
def wEnd : By := [101, 110, 100]
def numsS (l : List Int) : By := l.flatMap fun n => 32 :: Lib.itoa n
def rowS (w : By) (l : List Int) : By := w ++ numsS l ++ [10]
theorem numsS_take {l : List Int} {i : Nat} (h : i < l.length) : numsS (l.take (i + 1)) = numsS (l.take i) ++ (32 :: Lib.itoa l[i]) := by
 rw [List.take_succ_eq_append_getElem h]
 unfold numsS
 rw [List.flatMap_append]
 simp
theorem itoa_len {n : Int} (h0 : -9223372036854775808 ≤ n) (h1 : n ≤ 9223372036854775807) : (Lib.itoa n).length ≤ 21 := Lib.itoa_length_le n h0 h1
def FitL (l : List Int) : Prop := ∀ n ∈ l, -9223372036854775808 ≤ n ∧ n ≤ 9223372036854775807
theorem numsS_len : ∀ {l : List Int}, FitL l → (numsS l).length ≤ 22 * l.length
 | [], _ => by simp [numsS]
 | n :: l, h => by
  have h1 := itoa_len (h n (by simp)).1 (h n (by simp)).2
  have h2 := numsS_len (l := l) fun x hx => h x (List.mem_cons_of_mem _ hx)
  unfold numsS at h2 ⊢
  rw [List.flatMap_cons, List.length_append, List.length_cons, List.length_cons]
  omega
theorem FitL.take {l : List Int} (h : FitL l) (i : Nat) : FitL (l.take i) := fun n hn => h n (List.mem_of_mem_take hn)
theorem byF_len {α : Type} {f : α → By} {k : Nat} : ∀ {l : List α}, (∀ r ∈ l, (f r).length ≤ k) → (l.flatMap f).length ≤ k * l.length
 | [], _ => by simp
 | r :: l, h => by
  have h1 := h r (by simp)
  have h2 := byF_len (f := f) (l := l) fun x hx => h x (List.mem_cons_of_mem _ hx)
  rw [List.flatMap_cons, List.length_append, List.length_cons, Nat.mul_add]
  omega
theorem byF_take {α : Type} {f : α → By} {l : List α} {i : Nat} (h : i < l.length) : (l.take (i + 1)).flatMap f = (l.take i).flatMap f ++ f l[i] := by
 rw [List.take_succ_eq_append_getElem h, List.flatMap_append]
 simp

def plL (c : Pl) : List Int := [c.x, c.y]
def b01 (b : Bool) : Int := if b then 1 else 0
def kiL (k : Ki) : List Int := [k.lo, k.hi, b01 k.water, k.rent, k.most] ++ k.away
def haL (h : Ha) : List Int := [h.wide, h.deep, h.bay.x, h.bay.y]
def waS (l : List Pl) : By := l.flatMap fun c => rowS wWater (plL c)
def shS (l : List Pl) : By := l.flatMap fun c => rowS wShut (plL c)
def beS (l : List Int) : By := l.flatMap fun n => rowS wBears [n]
def kiS (l : List Ki) : By := l.flatMap fun k => rowS wKind (kiL k)
def writeS (h : Ha) : By := rowS wHall (haL h) ++ waS h.water ++ shS h.shut ++ beS h.bears ++ kiS h.kinds ++ rowS wEnd [(h.kinds.length : Int)]
def PlIn (l : List Pl) : Prop := ∀ c ∈ l, 0 ≤ c.x ∧ c.x ≤ 5 ∧ 0 ≤ c.y ∧ c.y ≤ 3
theorem cells_in {h : Ha} {l : List Pl} (V : VH h) (e : cellsErr h l = 0) : l.length ≤ 24 ∧ PlIn l := by
 unfold cellsErr at e
 split at e
 ·cases e
 ·refine ⟨by omega, fun c hc => ?_⟩
  obtain ⟨i, hi, rfl⟩ := List.getElem_of_mem hc
  have h1 := firstErr_zero.1 e i hi
  unfold cellErr at h1
  rw [List.getElem?_eq_getElem hi] at h1
  simp only at h1
  split at h1
  ·cases h1
  ·rename_i hp
   have hp' : isPl h l[i] = true := by simpa using hp
   unfold isPl at hp'
   rw [Bool.and_eq_true, inR_true, inR_true] at hp'
   have := V.w2; have := V.d2
   omega
theorem up_le {n b : Int} (hn : 1 ≤ n) (hb : 1 ≤ b) : 0 ≤ (n + b - 1) / b ∧ (n + b - 1) / b ≤ n := by
 rw [div_up hb]
 have := div_le (n := n - 1) (b := b) (by omega) hb
 omega
theorem baysLe {h : Ha} (V : VH h) : baysOf h ≤ 24 := by
 unfold baysOf colsOf
 have h1 := up_le V.w1 V.x1
 have h2 := up_le V.d1 V.y1
 have := V.w2; have := V.d2
 generalize (h.wide + h.bay.x - 1) / h.bay.x = a at h1 ⊢
 generalize (h.deep + h.bay.y - 1) / h.bay.y = b at h2 ⊢
 have h3 : a * b ≤ 6 * b := Int.mul_le_mul_of_nonneg_right (by omega) h2.1
 omega
theorem kiL_len (k : Ki) : (kiL k).length = 5 + k.away.length := by simp [kiL]; omega
end Go.Proofs.YtnjgdlmddlinaaaDoor

/- A strings.Builder of our own: it is made. (Vm) -/
namespace Go.Proofs.YtnjgdlmddlinaaaDoor.Vm
open Go Go.Proofs Go.RowKit
section
variable {P : Program} {T : Tab} {cx : Cx} {e : Env} {M : Mem} {D : List Nat} {Q : PQ}
theorem so_nil {w : World} {K : Nat → Option Nat} {H : List VObj} {j : Nat} (hj : H[j]? = some (.clm 0 1)) (hK : K j = none) : RepV w K H (.slice none 0 0) (.so j 1 (bysV [])) :=
 .so _ j 1 [] (.sl none 0 1 0 0 [] (fun _ _ => .nilFunc) (by simp) (by simp [maxLen]) (by simp) (by simp) (by simp) (by simp) (by simp)) (fun m k' hm => by
  rw [hj] at hm
  cases hm
  exact ⟨Nat.le_refl _, fun _ => ⟨rfl, .inr ⟨hK, rfl, none, rfl⟩⟩⟩)
theorem W_allocB (hT : TabOk P T) {id d tB tE : Nat} {ty : TypeId} {p : String} {af : Array Edge} {y : Ty} (hy : T.ty tB = some y) (hz : y.z = .agg #[.pointer none, .slice none 0 0]) (hd : d < cx.nt)
  (h : Q .normal ((d, .ptr (M.H.length + 1) 0) :: e) ⟨M.H ++ [.clm 0 1, .bld tB tE M.H.length []], M.lg⟩ D) :
  WCode P cx (.region id #[{ dst := some d, op := .alloc tB, type := ty, pos := p, after := af, guard := none }] false) e M D Q := by
 intro G w K a hs
 refine wpIn_region ?_
 have hY := hT.ty _ _ hy
 have hzz := run_zero' (P := P) (w := w) hY
 have hrun : (execOp a.eval ({ dst := some d, op := .alloc tB, type := ty, pos := p, after := af, guard := none } : Oper)).run P w = .ok (.value (.pointer (some ⟨w.heap.size, 0, none⟩))) (w.alloc (.cells #[.pointer none, .slice none 0 0] tB)) := by
  simp [execOp, Instr.alloc, hzz, hz, newVar, newRow, Value.cells]
 obtain ⟨e1, i1⟩ := step_new (w' := w) hs.inv (calm_refl w) (fun _ _ => rfl) (.clm 0 1) none (fun b e => by cases e) (fun c hc => by simp [contents] at hc) (fun hE b e => by cases e)
 replace e1 : Ext w K M.H w (upd K M.H.length none) (M.push (.clm 0 1)).H := e1
 have hnew := heap_alloc_new w (.cells #[.pointer none, .slice none 0 0] tB)
 have hl1 : (M.push (.clm 0 1)).H.length = M.H.length + 1 := by simp [Mem.push]
 have hj1 : (M.push (.clm 0 1)).H[M.H.length]? = some (.clm 0 1) := by simp [Mem.push]
 obtain ⟨e2, i2⟩ := step_new i1 (w' := w.alloc (.cells #[.pointer none, .slice none 0 0] tB)) ⟨rfl, rfl, rfl, by show w.heap.size ≤ (w.heap.push _).size; simp⟩ (fun b hb => heap_alloc_old w _ b hb) (.bld tB tE M.H.length []) (some w.heap.size)
  (fun b hb => by cases hb; exact ⟨Nat.le_refl _, by show _ < (w.heap.push _).size; simp⟩)
  (fun c hcc r hr => by
    simp only [contents, List.mem_singleton] at hcc
    subst hcc
    simp only [refs, List.mem_singleton] at hr
    omega)
  (fun hE => ⟨w.heap.size, .slice none 0 0, .pointer none, rfl, hnew, .inl rfl, so_nil (by rw [List.getElem?_append_left (by omega)]; exact hj1) (by rw [upd_ne _ _ (by omega)]; exact upd_same _ _ _), .inl rfl⟩)
 have hM : ((M.push (.clm 0 1)).push (.bld tB tE M.H.length [])) = ⟨M.H ++ [.clm 0 1, .bld tB tE M.H.length []], M.lg⟩ := by simp [Mem.push]
 rw [hM] at i2
 rw [show (M.push (.clm 0 1)).H ++ [.bld tB tE M.H.length []] = M.H ++ [.clm 0 1, .bld tB tE M.H.length []] by simp [Mem.push]] at e2
 have hE := e1.trans e2
 have hw0 : vwanted #[({ dst := some d, op := .alloc tB, type := ty, pos := p, after := af, guard := none } : Oper)] { dst := some d, op := .alloc tB, type := ty, pos := p, after := af, guard := none } e = some true := rfl
 simp only [List.size_toArray, List.length_cons, List.length_nil, Nat.zero_add, List.range_succ, List.range_zero, List.nil_append, wpOpsIn, List.getElem?_toArray, List.getElem?_cons_zero]
 rw [wanted_ok hs.fr hw0]
 simp only [if_true]
 refine ⟨fun _ _ => trivial, ?_⟩
 rw [Oper.semAt_eq _ _ _ (fun c hc => by cases hc), hrun]
 have hrep : RepV (w.alloc (.cells #[.pointer none, .slice none 0 0] tB)) (upd (upd K M.H.length none) (M.push (.clm 0 1)).H.length (some w.heap.size)) (M.H ++ [.clm 0 1, .bld tB tE M.H.length []]) (.pointer (some ⟨w.heap.size, 0, none⟩)) (.ptr (M.H.length + 1) 0) := by
  refine .ptr _ _ _ (by rw [hl1]; exact upd_same _ _ _) fun m k hm => ?_
  rw [List.getElem?_append_right (by omega)] at hm
  simp at hm
 obtain ⟨hf', hd'⟩ := put_ok (M := ⟨M.H ++ [.clm 0 1, .bld tB tE M.H.length []], M.lg⟩) (hs.fr.ext (M' := ⟨M.H ++ [.clm 0 1, .bld tB tE M.H.length []], M.lg⟩) hE) (dst := some d) (v := .ptr (M.H.length + 1) 0) (e' := (d, .ptr (M.H.length + 1) 0) :: e) (by unfold vput; simp only; rw [show Nat.blt d cx.nt = true by rw [Nat.blt_eq]; exact hd]; rfl) hrep (fun r hr => by obtain rfl : r = M.H.length + 1 := (by simpa [refs] using hr) ; show M.H.length + 1 < (M.H ++ [_, _]).length; rw [List.length_append]; exact Nat.lt_succ_self _)
 exact ⟨_, _, _, D, h, trivial, ⟨hf', by rw [hd']; exact df_ext hE hs.df, i2, (rd_ext hE hs.rd).1⟩, hE⟩
end
end Go.Proofs.YtnjgdlmddlinaaaDoor.Vm

/- (*strings.Builder).WriteString, in the model. (Vm) -/
namespace Go.Proofs.YtnjgdlmddlinaaaDoor.Vm
open Go Go.Proofs Go.RowKit
structure AppP (w w2 : World) (tE : Nat) (v v' : Value) (l s : By) : Prop where
 row : ∃ g cap cur, v' = .slice (some ⟨g, 0, none⟩) (l.length + s.length) cap ∧ w2.heap[g]? = some (.cells cur tE (0, 0)) ∧ l.length + s.length ≤ cap ∧ cap ≤ maxLen ∧ cur.size = cap ∧ cur.toList.take (l.length + s.length) = Lib.byteCells (l ++ s) ∧ (v.ownBlock = some g ∨ w.heap.size ≤ g)
 grown : w.grownBy w2 v.ownBlock
 old : ∀ k0, v.ownBlock = some k0 → ∃ c0 c1, w.heap[k0]? = some (.cells c0 tE (0, 0)) ∧ w2.heap[k0]? = some (.cells c1 tE (0, 0)) ∧ c1.size = c0.size ∧ ∀ o, o < l.length → c1[o]? = c0[o]?
theorem str_byte (s : By) : Lib.strCells (tx s) = Lib.byteCells s := by
 unfold Lib.strCells Lib.byteCells
 rw [tx_list]
theorem byte_app (a b : By) : Lib.byteCells (a ++ b) = Lib.byteCells a ++ Lib.byteCells b := by simp [Lib.byteCells]
theorem run_append_str {P : Program} (w : World) (t u ty e : TypeId) (i : TypeInfo) (ht : P.underlying t = some (.slice e)) (hu : P.underlying u = some .string) (hi : P.info? e = some i) (hz : i.zero = some (.int .u8 0))
  (hsize : i.size = 1) (hby : i.bytes = 1) (v : Value) (l s : By) (hown : w.ownsRow 0 e 1 v l.length (Lib.byteCells l)) (hs : s ≠ []) (hb : l.length + s.length ≤ 140737488355328) :
  ∃ v' w2, (Builtin.append_ #[t, u] ty #[v, .string (tx s)]).run P w = .ok v' w2 ∧ AppP w w2 e v v' l s := by
 have hs1 : 0 < s.length := List.length_pos_iff.2 hs
 rcases hown.2 with ⟨rfl, h0⟩ | ⟨g, cap, cur, rfl, _, hg, hnc, hcm, hcs, htake⟩
 ·obtain rfl : l = [] := List.eq_nil_of_length_eq_zero h0
  obtain ⟨v', w2, h1, h2, h3, h4⟩ := Lib.run_append_own_string (P := P) w w.heap.size t u ty e i ht hu hi hz hsize hby (.slice none 0 0) 0 [] (World.ownsRow_nil w _ e 1) (tx s) (by rw [tx_size]; unfold maxLen; simp at hb; omega) (by rw [tx_size]; simp at hb; omega) (Nat.le_refl _)
  refine ⟨v', w2, h1, ⟨?_, h3, fun k0 hk => by cases hk⟩⟩
  rcases h2.2 with ⟨rfl, hn⟩ | ⟨g, cap, cur, rfl, hbg, hg, hnc, hcm, hcs, htake⟩
  ·rw [tx_size] at hn; omega
  ·rw [tx_size] at hnc htake
   rw [tx_size]
   simp only [List.nil_append, str_byte, Nat.mul_one, Nat.zero_add] at htake hcs ⊢
   exact ⟨g, cap, cur, by simp, hg, by simpa using hnc, hcm, hcs, by simpa using htake, .inr hbg⟩
 ·have hsmall : l.length + s.length ≤ 9223372036854775807 := by omega
  have hxl : (Lib.byteCells l).length = l.length := Lib.byteCells_length l
  simp only [Nat.mul_one] at hcs htake
  by_cases hroom : l.length + s.length ≤ cap
  ·have hr := Lib.run_append_room_string (P := P) w t u ty e i ht hu hi hsize g l.length cap cur hg (tx s) (by rw [tx_size]; exact hroom) (by rw [tx_size]; omega)
   rw [tx_size, str_byte] at hr
   refine ⟨_, _, hr, ⟨⟨g, cap, _, rfl, setRow_heap w g cur _ e _ hg, hroom, hcm, ?_, ?_, .inl rfl⟩, ⟨rfl, rfl, rfl, by simp, fun k _ hk => setRow_other w g k _ (fun e => hk (by simp [Value.ownBlock, e]))⟩, fun k0 hk => ?_⟩⟩
   ·simp only [List.size_toArray, List.length_append, List.length_take, List.length_drop, Array.length_toList, Lib.byteCells_length]
    omega
   ·rw [htake, byte_app]
    show ((Lib.byteCells l ++ Lib.byteCells s) ++ _).take _ = _
    rw [show l.length + s.length = (Lib.byteCells l ++ Lib.byteCells s).length by rw [List.length_append, Lib.byteCells_length, Lib.byteCells_length]]
    exact List.take_left
   ·obtain rfl : g = k0 := by simpa [Value.ownBlock] using hk
    refine ⟨cur, _, hg, setRow_heap w g cur _ e _ hg, ?_, fun o ho => ?_⟩
    ·simp only [List.size_toArray, List.length_append, List.length_take, List.length_drop, Array.length_toList, Lib.byteCells_length]
     omega
    ·have hcl : cur.toList.length = cur.size := Array.length_toList
     rw [List.getElem?_toArray, List.append_assoc, List.getElem?_append_left (by rw [List.length_take]; omega), List.getElem?_take, if_pos ho, Array.getElem?_toList]
  ·have holds : ∀ j u, (Lib.byteCells l)[j]? = some u → w.cell? ((⟨g, 0, none⟩ : Addr).add j) = some u := hown.cells (g := g) rfl
   have hr := Lib.run_append_grow_string (P := P) w t u ty e i (.int .u8 0) ht hu hi hz ⟨g, 0, none⟩ l.length cap (Lib.byteCells l) (by rw [hsize]; omega) holds (tx s) (by rw [tx_size]; omega) (by rw [tx_size]; omega) (by rw [hby, tx_size]; exact growslice_fits (by omega) (by omega))
   rw [tx_size, str_byte] at hr
   have hge := grownCap_ge w (l.length + s.length) cap e
   have hcm2 : grownCap w (l.length + s.length) cap e ≤ maxLen := grownCap_le_maxLen w (l.length + s.length) cap e (by unfold maxLen; omega)
   refine ⟨_, _, hr, ⟨⟨w.heap.size, _, _, rfl, heap_alloc_new w.drew _, hge, hcm2, ?_, ?_, .inr (Nat.le_refl _)⟩, ⟨rfl, rfl, rfl, by simp, fun k hk _ => heap_alloc_old w.drew _ k hk⟩, fun k0 hk => ?_⟩⟩
   ·have hz1 : (Value.int IntKind.u8 0).cells.size = 1 := rfl
    simp only [Array.size_append, List.size_toArray, size_zeroCells, hz1, Lib.byteCells_length]
    omega
   ·rw [byte_app]
    simp only [Array.toList_append, List.append_assoc]
    rw [← List.append_assoc, show l.length + s.length = (Lib.byteCells l ++ Lib.byteCells s).length by rw [List.length_append, Lib.byteCells_length, Lib.byteCells_length]]
    exact List.take_left
   ·obtain rfl : g = k0 := by simpa [Value.ownBlock] using hk
    exact ⟨cur, cur, hg, (heap_alloc_old w.drew _ g (Array.getElem?_eq_some_iff.1 hg).1).trans hg, rfl, fun _ _ => rfl⟩
theorem wpList_append_str {P : Program} {w : World} {ops : Array Oper} {rest : List Oper} {o : Oper} {a : Act} {Q : Exit → Act → World → Prop} (hgd : o.guard = none) (sl x : Operand) (t u : TypeId)
  (ho : o.op = .call { callee := .builtin .append, args := #[sl, x], argTypes := #[t, u] })
  (e : TypeId) (i : TypeInfo) (ht : P.underlying t = some (.slice e)) (hu : P.underlying u = some .string) (hi : P.info? e = some i) (hz : i.zero = some (.int .u8 0))
  (hsize : i.size = 1) (hby : i.bytes = 1) (v : Value) (l s : By) (hs : a.eval sl = v) (hown : w.ownsRow 0 e 1 v l.length (Lib.byteCells l)) (hne : s ≠ []) (hx : a.eval x = .string (tx s)) (hb : l.length + s.length ≤ 140737488355328)
  (h : ∀ v' w2, AppP w w2 e v v' l s → wpList P ops Q rest (a.put o.dst v') w2) : wpList P ops Q (o :: rest) a w := by
 refine wpList_plain hgd fun K hK => ?_
 obtain ⟨v', w2, hr, h2⟩ := run_append_str (P := P) w t u o.type e i ht hu hi hz hsize hby v l s hown hne hb
 unfold Oper.wp execOp
 simp only [ho, resolve, invoke, builtin, Sem.run_bind, Sem.run_pure, Result.andThen_ok, List.map_toArray, List.map_cons, List.map_nil, hs, hx, hr]
 exact hK _ _ (h v' w2 h2)
abbrev tBld : Nat := 79
abbrev tByte : Nat := 5
structure WsP (w w2 : World) (b : Nat) (v : Value) (l s : By) : Prop where
 row : ∃ g cap cur, w2.heap[b]? = some (.cells #[.pointer (some ⟨b, 0, none⟩), .slice (some ⟨g, 0, none⟩) (l.length + s.length) cap] tBld (0, 0)) ∧ w2.heap[g]? = some (.cells cur tByte (0, 0)) ∧ l.length + s.length ≤ cap ∧ cap ≤ maxLen ∧ cur.size = cap ∧ cur.toList.take (l.length + s.length) = Lib.byteCells (l ++ s) ∧ (v.ownBlock = some g ∨ w.heap.size ≤ g)
 os : w2.os = w.os
 tape : w2.tape = w.tape
 output : w2.output = w.output
 size : w.heap.size ≤ w2.heap.size
 block : ∀ k, k < w.heap.size → k ≠ b → some k ≠ v.ownBlock → w2.heap[k]? = w.heap[k]?
 old : ∀ k0, v.ownBlock = some k0 → ∃ c0 c1, w.heap[k0]? = some (.cells c0 tByte (0, 0)) ∧ w2.heap[k0]? = some (.cells c1 tByte (0, 0)) ∧ c1.size = c0.size ∧ ∀ o, o < l.length → c1[o]? = c0[o]?
theorem setCell_eq (w : World) (b : Nat) (p v x : Value) (T : TypeId) (i : Nat) (h : w.heap[b]? = some (.cells #[p, v] T (0, 0))) : (w.setCell ⟨b, i, none⟩ x).heap[b]? = some (.cells ((#[p, v] : Array Value).setIfInBounds i x) T (0, 0)) := by
 simp [World.setCell, Array.getElem?_modify, h]
set_option maxHeartbeats 2000000 in
set_option maxRecDepth 100000 in
theorem writeString_raw (w : World) (b : Nat) (p v : Value) (l s : By) (hb : w.heap[b]? = some (.cells #[p, v] tBld (0, 0))) (hp : p = .pointer none ∨ p = .pointer (some ⟨b, 0, none⟩))
  (hown : w.ownsRow 0 tByte 1 v l.length (Lib.byteCells l)) (hne : v.ownBlock ≠ some b) (hs : s ≠ []) (hl : l.length + s.length ≤ 140737488355328) :
  Calls Tryd.prog 34 #[.pointer (some ⟨b, 0, none⟩), .string (tx s)] w fun e w' => e = .returned (.tuple #[.int .i64 (tx s).size, .nilIface]) ∧ WsP w w' b v l s := by
 have hcc : Calls Tryd.prog 51 #[.pointer (some ⟨b, 0, none⟩)] w fun e w1 => e = .returned (.tuple #[]) ∧ w1.heap[b]? = some (.cells #[.pointer (some ⟨b, 0, none⟩), v] tBld (0, 0)) ∧ w1.os = w.os ∧ w1.tape = w.tape ∧ w1.output = w.output ∧ w1.heap.size = w.heap.size ∧ ∀ k, k ≠ b → w1.heap[k]? = w.heap[k]? := by
  rcases hp with rfl | rfl
  ·refine (Any.Builder_copyCheck_fresh Tryd.lays240 Tryd.Builder_X72_240 b w (by rw [Lib.cell_of_heap hb]; rfl) (by simp [World.shape?, hb]; rfl) (Lib.frozen_of_heap hb 0)).mono ?_
   rintro e w1 ⟨rfl, rfl⟩
   refine ⟨rfl, setCell_eq w b _ v _ _ 0 hb, rfl, rfl, rfl, by simp [World.setCell], fun k hk => Below.heap_setCell _ _ _ _ hk⟩
  ·refine (Any.Builder_copyCheck_used Tryd.lays240 Tryd.Builder_X72_240 b w (by rw [Lib.cell_of_heap hb]; rfl)).mono ?_
   rintro e w1 ⟨rfl, rfl⟩
   exact ⟨rfl, hb, rfl, rfl, rfl, rfl, fun _ _ => rfl⟩
 obtain ⟨i0, hi, hz0, hz1, hz2⟩ := info_parts Tryd.Builder_Extra_169.infoByte
 go_enter Tryd.func34, Tryd.ntmps34
 go_wp2_with (go_at_call 51; refine hcc.mono ?_)
 rintro e w1 ⟨rfl, hb1, o1, o2, o3, o4, o5⟩
 have c0 : w1.cell? ⟨b, 0, none⟩ = some (.pointer (some ⟨b, 0, none⟩)) := by rw [Lib.cell_of_heap hb1]; rfl
 have c1 : w1.cell? ⟨b, 1, none⟩ = some v := by rw [Lib.cell_of_heap hb1]; rfl
 have hown1 : w1.ownsRow 0 tByte 1 v l.length (Lib.byteCells l) := by
  refine ⟨hown.1, ?_⟩
  rcases hown.2 with h | ⟨g, cap, cur, h1, h2, h3, h4⟩
  ·exact .inl h
  ·exact .inr ⟨g, cap, cur, h1, h2, (o5 g (fun e => hne (by rw [h1, ← e]; rfl))).trans h3, h4⟩
 go_wp2_with (at_builtin; refine wpList_append_str rfl _ _ 77 9 rfl tByte i0 Tryd.underlying77 Tryd.underlying9 hi hz0 hz1 hz2 v l s rfl hown1 hs rfl hl ?_)
 intro v' w2 hA
 obtain ⟨g, cap, cur, rfl, hg, q1, q2, q3, q4, q5⟩ := hA.row
 have hlt : b < w1.heap.size := (Array.getElem?_eq_some_iff.1 hb1).1
 have hb2 : w2.heap[b]? = some (.cells #[.pointer (some ⟨b, 0, none⟩), v] tBld (0, 0)) := by
  rw [hA.grown.block b hlt (fun e => hne e.symm)]
  exact hb1
 have d0 : w2.cell? ⟨b, 0, none⟩ = some (.pointer (some ⟨b, 0, none⟩)) := by rw [Lib.cell_of_heap hb2]; rfl
 have d1 : w2.cell? ⟨b, 1, none⟩ = some v := by rw [Lib.cell_of_heap hb2]; rfl
 have f1 : w2.frozen? ⟨b, 1, none⟩ = false := Lib.frozen_of_heap hb2 1
 go_wp2
 go_ret2
 have hgb : g ≠ b := by
  rintro rfl
  rcases q5 with h | h
  ·exact hne h
  ·omega
 refine ⟨rfl, ⟨⟨g, cap, cur, setCell_eq w2 b _ v _ _ 1 hb2, (Below.heap_setCell _ _ _ _ hgb).trans hg, q1, q2, q3, q4, by rw [o4] at q5; exact q5⟩, hA.grown.os.trans o1, hA.grown.tape.trans o2, hA.grown.output.trans o3, ?_, fun k hk hkb hkv => ?_, fun k0 hk0 => ?_⟩⟩
 ·have := hA.grown.size
  simp only [World.setCell, Array.size_modify]
  omega
 ·rw [Below.heap_setCell _ _ _ _ hkb, hA.grown.block k (by omega) hkv, o5 k hkb]
 ·obtain ⟨x0, x1, h1, h2, h3, h4⟩ := hA.old k0 hk0
  have hkb : k0 ≠ b := fun e => hne (by rw [hk0, e])
  exact ⟨x0, x1, (o5 k0 hkb).symm.trans h1, (Below.heap_setCell _ _ _ _ hkb).trans h2, h3, h4⟩
end Go.Proofs.YtnjgdlmddlinaaaDoor.Vm

/- (*strings.Builder).WriteString and String, on values. (Vm) -/
namespace Go.Proofs.YtnjgdlmddlinaaaDoor.Vm
open Go Go.Proofs Go.RowKit
theorem set_get' {α : Type} {l : List α} {n i : Nat} {x y : α} (h : (l.set n x)[i]? = some y) : (i = n ∧ y = x) ∨ (i ≠ n ∧ l[i]? = some y) := by
 rw [List.getElem?_set] at h
 by_cases e : n = i
 ·rw [if_pos e] at h
  split at h
  ·cases h; exact .inl ⟨e.symm, rfl⟩
  ·cases h
 ·rw [if_neg e] at h
  exact .inr ⟨fun e2 => e e2.symm, h⟩
theorem bld_step {G : Ghost} {w w' : World} {K : Nat → Option Nat} {M : Mem} (hI : Inv G w K M) {i j b tB tE : Nat} {l l' : By} {m' : Nat} {kb : Option Nat} (hi : M.H[i]? = some (.bld tB tE j l)) (hj : M.H[j]? = some (.clm l.length 1)) (hKi : K i = some b)
  (hc : Calm w w') (ha : ∀ k, k < w.heap.size → k ≠ b → some k ≠ K j → w'.heap[k]? = w.heap[k]?) (hz : Szp w w')
  (hold : ∀ k0, K j = some k0 → ∀ o, o < l.length → w'.cell? ⟨k0, o, none⟩ = w.cell? ⟨k0, o, none⟩)
  (hkb : ∀ g, kb = some g → (K j = some g ∨ w.heap.size ≤ g) ∧ g < w'.heap.size) (hm : l.length < m')
  (hok : Ext w K M.H w' (upd K j kb) ((M.H.set i (.bld tB tE j l')).set j (.clm m' 1)) → ObjOk w' (upd K j kb) ((M.H.set i (.bld tB tE j l')).set j (.clm m' 1)) (some b) (.bld tB tE j l') ∧ ObjOk w' (upd K j kb) ((M.H.set i (.bld tB tE j l')).set j (.clm m' 1)) kb (.clm m' 1)) :
  Ext w K M.H w' (upd K j kb) ((M.H.set i (.bld tB tE j l')).set j (.clm m' 1)) ∧ Inv G w' (upd K j kb) ⟨(M.H.set i (.bld tB tE j l')).set j (.clm m' 1), M.lg⟩ := by
 have hij : i ≠ j := by
  rintro rfl
  rw [hi] at hj
  cases hj
 have hil := (List.getElem?_eq_some_iff.1 hi).1
 have hjl := (List.getElem?_eq_some_iff.1 hj).1
 have hget : ∀ k ob, ((M.H.set i (.bld tB tE j l')).set j (.clm m' 1))[k]? = some ob → (k = j ∧ ob = .clm m' 1) ∨ (k = i ∧ ob = .bld tB tE j l') ∨ (k ≠ j ∧ k ≠ i ∧ M.H[k]? = some ob) := fun k ob h => by
  rcases set_get' h with ⟨h1, h2⟩ | ⟨h1, h2⟩
  ·exact .inl ⟨h1, h2⟩
  ·rcases set_get' h2 with ⟨h3, h4⟩ | ⟨h3, h4⟩
   ·exact .inr (.inl ⟨h3, h4⟩)
   ·exact .inr (.inr ⟨h1, h3, h4⟩)
 have hlen : ((M.H.set i (.bld tB tE j l')).set j (.clm m' 1)).length = M.H.length := by simp
 have hbj : K j ≠ some b := fun e => hij (hI.inj i j b hil hjl (by rw [hi]; simp) (by rw [hj]; simp) hKi e)
 have hK' : ∀ k, k ≠ j → upd K j kb k = K k := fun k hk => upd_ne K kb hk
 have hE : Ext w K M.H w' (upd K j kb) ((M.H.set i (.bld tB tE j l')).set j (.clm m' 1)) := by
  refine ⟨hc.size, hz, fun b0 o hlt him k ob hk hKk => ?_, fun b0 o hlt him => ?_, fun k ob hk => ?_⟩
  ·rcases hget k ob hk with ⟨rfl, rfl⟩ | ⟨rfl, rfl⟩ | ⟨h1, h2, h3⟩
   ·rw [upd_same] at hKk
    rcases (hkb b0 hKk).1 with h | h
    ·rcases him k _ hj h with e | ⟨m, k', e, ho⟩
     ·exact e.elim
     ·cases e
      exact .inr ⟨m', 1, rfl, by omega⟩
    ·omega
   ·rw [hK' k hij] at hKk
    rcases him k _ hi hKk with e | ⟨m, k', e, _⟩
    ·exact e.elim
    ·cases e
   ·rw [hK' k h1] at hKk
    exact him k ob h3 hKk
  ·by_cases h1 : b0 = b
   ·subst h1
    rcases him i _ hi hKi with e | ⟨m, k', e, _⟩
    ·exact e.elim
    ·cases e
   ·by_cases h2 : K j = some b0
    ·rcases him j _ hj h2 with e | ⟨m, k', e, ho⟩
     ·exact e.elim
     ·cases e
      exact hold b0 h2 o (by omega)
    ·exact World.cell?_of_block (ha b0 hlt h1 (fun e => h2 e.symm))
  ·by_cases h1 : k = j
   ·subst h1
    rw [hj] at hk
    cases hk
    exact ⟨.clm m' 1, by rw [List.getElem?_set_self (by simp; exact hjl)], m', rfl, by omega, fun e => by omega⟩
   ·by_cases h2 : k = i
    ·subst h2
     rw [hi] at hk
     cases hk
     refine ⟨.bld tB tE j l', by rw [List.getElem?_set_ne (Ne.symm h1), List.getElem?_set_self hil], fun _ _ e => VObj.noConfusion e, hK' k h1⟩
    ·refine ⟨ob, by rw [List.getElem?_set_ne (Ne.symm h1), List.getElem?_set_ne (Ne.symm h2)]; exact hk, ?_⟩
     exact objLe_ng (hK' k h1) fun hg b2 hb2 => ha b2 (hI.lt hk hb2) (fun e => h2 (hI.inj k i b (List.getElem?_eq_some_iff.1 hk).1 hil (by rw [hk]; simpa using hg) (by rw [hi]; simp) (by rw [hb2, e]) hKi)) (fun e => h1 (hI.inj k j b2 (List.getElem?_eq_some_iff.1 hk).1 hjl (by rw [hk]; simpa using hg) (by rw [hj]; simp) hb2 e.symm))
 obtain ⟨ok1, ok2⟩ := hok hE
 refine ⟨hE, hc.os.trans hI.os, hc.tape.trans hI.tape, hc.output.trans hI.output, Nat.le_trans hI.size hc.size, Nat.le_trans hI.gB hc.size, fun b0 h1 h2 => ?_, fun p q b0 hp hq gp gq hKp hKq => ?_, fun k b0 hk hKk => ?_, fun k ob hk => ?_, fun k ob hk c hcc r hr => ?_, fun e he => ?_, fun k L hk => ?_⟩
 ·have hlt : b0 < w.heap.size := Nat.lt_of_lt_of_le h1 hI.gB
  rw [ha b0 hlt (fun e => ?_) (fun e => ?_)]
  ·exact hI.old b0 h1 h2
  ·subst e
   rcases (hI.blk i b0 hil hKi).2 with h | h
   ·omega
   ·exact h2 h
  ·rcases (hI.blk j b0 hjl e.symm).2 with h | h
   ·omega
   ·exact h2 h
 ·simp only [hlen] at hp hq
  have gone : ∀ k, ((M.H.set i (.bld tB tE j l')).set j (.clm m' 1))[k]? ≠ some .gone → k ≠ j → M.H[k]? ≠ some .gone := fun k hk hkj => by
   by_cases h2 : k = i
   ·subst h2; rw [hi]; simp
   ·rwa [List.getElem?_set_ne (Ne.symm hkj), List.getElem?_set_ne (Ne.symm h2)] at hk
  by_cases p1 : p = j <;> by_cases q1 : q = j
  ·rw [p1, q1]
  ·subst p1
   rw [upd_same] at hKp
   rw [hK' q q1] at hKq
   have := (hI.blk q b0 hq hKq).1
   rcases (hkb b0 hKp).1 with h | h
   ·exact hI.inj p q b0 hp hq (by rw [hj]; simp) (gone q gq q1) h hKq
   ·omega
  ·subst q1
   rw [upd_same] at hKq
   rw [hK' p p1] at hKp
   have := (hI.blk p b0 hp hKp).1
   rcases (hkb b0 hKq).1 with h | h
   ·exact hI.inj p q b0 hp hq (gone p gp p1) (by rw [hj]; simp) hKp h
   ·omega
  ·rw [hK' p p1] at hKp
   rw [hK' q q1] at hKq
   exact hI.inj p q b0 hp hq (gone p gp p1) (gone q gq q1) hKp hKq
 ·simp only [hlen] at hk
  by_cases h1 : k = j
  ·subst h1
   rw [upd_same] at hKk
   refine ⟨(hkb b0 hKk).2, ?_⟩
   rcases (hkb b0 hKk).1 with h | h
   ·exact (hI.blk k b0 hk h).2
   ·exact .inl (Nat.le_trans hI.gB h)
  ·rw [hK' k h1] at hKk
   exact ⟨Nat.lt_of_lt_of_le (hI.blk k b0 hk hKk).1 hc.size, (hI.blk k b0 hk hKk).2⟩
 ·rcases hget k ob hk with ⟨rfl, rfl⟩ | ⟨rfl, rfl⟩ | ⟨h1, h2, h3⟩
  ·rw [upd_same]; exact ok2
  ·rw [hK' k hij, hKi]; exact ok1
  ·rw [hK' k h1]
   exact (hI.obj k ob h3).extg hE (fun hg b2 hb2 => ha b2 (hI.lt h3 hb2) (fun e => h2 (hI.inj k i b (List.getElem?_eq_some_iff.1 h3).1 hil (by rw [h3]; simpa using hg) (by rw [hi]; simp) (by rw [hb2, e]) hKi)) (fun e => h1 (hI.inj k j b2 (List.getElem?_eq_some_iff.1 h3).1 hjl (by rw [h3]; simpa using hg) (by rw [hj]; simp) hb2 e.symm))) (hI.content h3)
 ·simp only [hlen]
  rcases hget k ob hk with ⟨rfl, rfl⟩ | ⟨rfl, rfl⟩ | ⟨h1, h2, h3⟩
  ·simp [contents] at hcc
  ·simp only [contents, List.mem_singleton] at hcc
   subst hcc
   exact hI.cl k _ hi (.so j 1 (bysV l)) (by simp [contents]) r (by simpa [refs] using hr)
  ·exact hI.cl k ob h3 c hcc r hr
 ·simp only [hlen]
  exact hI.lg e he
 ·rcases hget k _ hk with ⟨_, h⟩ | ⟨_, h⟩ | ⟨_, _, h⟩
  ·cases h
  ·cases h
  ·exact hI.lpd k L h
theorem bld_own {w : World} {K : Nat → Option Nat} {H : List VObj} {v : Value} {j tE : Nat} {l : By} (hj : H[j]? = some (.clm l.length 1)) (hr : RepV w K H v (.so j 1 (bysV l))) (hb : BufOk w tE v) :
  w.ownsRow 0 tE 1 v l.length (Lib.byteCells l) ∧ v.ownBlock = K j := by
 cases hr with
 | so _ _ _ _ hP hT =>
  have hlen : (bysV l).length = l.length := by simp [bysV]
  rw [hlen] at hT
  obtain ⟨_, h2⟩ := hT _ _ hj
  obtain ⟨_, h3⟩ := h2 rfl
  rcases h3 with ⟨g, c, vs, t, hK, rfl, hg, hc⟩ | ⟨hK, h0, A, rfl⟩
  ·rcases hb with h | ⟨g2, n2, c2, h, _, vs2, z2, hg2, hs2⟩
   ·cases h
   ·obtain ⟨e1, rfl, rfl⟩ := Value.slice.inj h
    cases e1
    rw [hg] at hg2
    cases hg2
    subst hs2
    refine ⟨⟨by rw [Lib.byteCells_length, Nat.mul_one], .inr ⟨g, vs.size, vs, rfl, Nat.zero_le _, hg, ?_, ?_, by rw [Nat.mul_one], ?_⟩⟩, hK.symm⟩
    ·obtain ⟨_, hm, _⟩ := nil_of_none hP
     omega
    ·generalize hrv : Value.slice (some ⟨g, 0, none⟩) l.length vs.size = rv at hP
     cases hP with
     | sl A c _ b off _ f h1 h2 h3 h4 h5 h6 h7 =>
      obtain ⟨rfl, e2, rfl⟩ := Value.slice.inj hrv
      exact h2
    ·generalize hrv : Value.slice (some ⟨g, 0, none⟩) l.length vs.size = rv at hP
     cases hP with
     | sl A c _ b off _ f hc hm hkk hA hI hw hr =>
      obtain ⟨rfl, e2, rfl⟩ := Value.slice.inj hrv
      apply List.ext_getElem?
      intro o
      rw [Nat.mul_one, List.getElem?_take]
      by_cases ho : o < l.length
      ·rw [if_pos ho, Array.getElem?_toList]
       have hne : bysV l ≠ [] := by intro e; rw [← hlen, e] at ho; simp at ho
       have hab := hA hne
       simp only [Option.some.injEq, Addr.mk.injEq] at hab
       obtain ⟨rfl, rfl, -⟩ := hab
       have hx : (bysV l)[o]? = some [.int .u8 (l[o]).toNat] := by simp [bysV, ho]
       have h8 := hw o _ 0 _ hx rfl
       have h9 : f o 0 = .int .u8 (l[o]).toNat := rep_int (H := H) (K := K) (.p _ _ (hr o _ 0 _ hx rfl))
       rw [h9, show 0 + o * 1 + 0 = o by omega, Lib.cell_of_heap hg] at h8
       rw [h8]
       simp [Lib.byteCells, ho]
      ·rw [if_neg ho, List.getElem?_eq_none (by rw [Lib.byteCells_length]; omega)]
  ·rcases hb with h | ⟨g2, n2, c2, h, hn2, _⟩
   ·rw [h, hK]
    refine ⟨⟨by rw [Lib.byteCells_length, Nat.mul_one], .inl ⟨rfl, h0⟩⟩, rfl⟩
   ·obtain ⟨_, e, _⟩ := Value.slice.inj h
    exact absurd (e.symm.trans h0) hn2
end Go.Proofs.YtnjgdlmddlinaaaDoor.Vm
