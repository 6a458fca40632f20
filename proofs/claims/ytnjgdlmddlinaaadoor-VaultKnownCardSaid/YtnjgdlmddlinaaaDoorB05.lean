/- A part of the proofs about the chapter of the vaults; it states no condition of its own. -/
import Derived.Test.YtnjgdlmddlinaaaDoorB04
import Derived.Laws.StructEq
import Derived.Laws.BytesString
import Derived.WideLaws
import Derived.MapKept
set_option linter.unusedVariables false
set_option linter.unusedSimpArgs false
/- A machine on values: its operations are true, part 6: numbers, lengths, literals, made slices. -/
namespace Go.Proofs.YtnjgdlmddlinaaaDoor.Vm
open Go
section
variable {P : Program} {T : Tab} {G : Ghost} {w : World} {K : Nat → Option Nat} {M M' : Mem} {H : List VObj}

theorem run_pureOf {s : Sem Value} {v : Value} (h : pureOf s = some v) : s.run P w = .ok v w := by
 unfold pureOf at h
 split at h
 ·cases h; rfl
 ·cases h
theorem eqGuard_int {op : BinOp} {t : TypeId} {x y : Operand} {k : IntKind} {n : Int} {v : Value} : eqGuard op t x y (.int k n) v = pure () := by cases op <;> rfl
theorem eqGuard_str {op : BinOp} {t : TypeId} {x y : Operand} {s : ByteArray} {v : Value} : eqGuard op t x y (.string s) v = pure () := by cases op <;> rfl
theorem eqGuard_bool {op : BinOp} {t : TypeId} {x y : Operand} {s : Bool} {v : Value} : eqGuard op t x y (.bool s) v = pure () := by cases op <;> rfl
theorem binOp_int {op : BinOp} {t : TypeId} {k k' : IntKind} {a b : Int} : Go.binOp op t (.int k a) (.int k' b) = Go.binOp op 0 (.int k a) (.int k' b) := by cases op <;> rfl
theorem binOp_str {op : BinOp} {t : TypeId} {a b : ByteArray} : Go.binOp op t (.string a) (.string b) = Op.stringOp op a b := by cases op <;> rfl

theorem int_cells : ∀ {vs : List Value} {xs : List VV} {ns : List Int}, PW (fun u c => RepV w K H u c) vs xs → cellInts xs = some ns → vs = ns.map (Value.int .i64)
 | [], xs, ns, h, e => by
  have : xs = [] := List.eq_nil_of_length_eq_zero (by have := h.1; simpa using this.symm)
  subst this
  simp [cellInts] at e
  subst e
  rfl
 | v :: vs, [], ns, h, e => by have := h.1; simp at this
 | v :: vs, x :: xs, ns, h, e => by
  unfold cellInts at e
  split at e
  ·rename_i heq; cases heq
  ·rename_i n r heq
   cases heq
   obtain ⟨ns', h1, rfl⟩ := Option.map_eq_some_iff.1 e
   have h0 := h.2 0 _ _ rfl rfl
   have := rep_int h0
   subst this
   rw [int_cells (vs := vs) ⟨by have := h.1; simpa using this, fun i a b ha hb => h.2 (i + 1) a b (by simpa using ha) (by simpa using hb)⟩ h1]
   rfl
  ·cases e
theorem agg_ints {v : Value} {xs : List VV} {ns : List Int} (h : RepV w K H v (.agg xs)) (e : cellInts xs = some ns) : v = nums ns ∧ ns.length = xs.length := by
 cases h with
 | agg vs cs hs h1 h =>
  have hp : PW (fun u c => RepV w K H u c) vs.toList xs := ⟨by simpa using hs, fun i a b ha hb => h i a b (by simpa using ha) hb⟩
  have := int_cells hp e
  refine ⟨?_, ?_⟩
  ·unfold nums
   rw [← this]
  ·rw [← hs, ← Array.length_toList, this]; simp
theorem veq_ints : ∀ {xs ys : List VV} {b : Bool}, veqCells xs ys = some b → ∃ ns ms, cellInts xs = some ns ∧ cellInts ys = some ms ∧ b = decide (ns = ms)
 | [], [], b, h => by simp [veqCells] at h; subst h; exact ⟨[], [], rfl, rfl, rfl⟩
 | [], y :: ys, b, h => by simp [veqCells] at h
 | x :: xs, [], b, h => by simp [veqCells] at h
 | x :: xs, y :: ys, b, h => by
  unfold veqCells at h
  split at h
  ·rename_i h1 h2; cases h1
  ·rename_i n r m s h1 h2
   cases h1
   cases h2
   obtain ⟨b', hb, rfl⟩ := Option.map_eq_some_iff.1 h
   obtain ⟨ns, ms, e1, e2, rfl⟩ := veq_ints hb
   refine ⟨n :: ns, m :: ms, by simp [cellInts, e1], by simp [cellInts, e2], ?_⟩
   by_cases h1 : n = m <;> by_cases h2 : ns = ms <;> simp [h1, h2]
  ·cases h

theorem vbin_ok (hT : TabOk P T) {op : BinOp} {t : Nat} {x y v : VV} {rx ry : Value} {ox oy : Operand} (h : vbin T op t x y = some v) (hx : RepV w K H rx x) (hy : RepV w K H ry y) :
  ∃ rv, (do eqGuard op t ox oy rx ry; Go.binOp op t rx ry : Sem Value).run P w = .ok rv w ∧ RepV w K H rv v ∧ Cl H.length v := by
 unfold vbin at h
 split at h
 ·rename_i k a k' b
  obtain ⟨rv, h1, rfl⟩ := Option.map_eq_some_iff.1 h
  rw [rep_int hx, rep_int hy, eqGuard_int, binOp_int]
  exact ⟨rv, by simpa using run_pureOf h1, ofValue_ok _, ofValue_cl _ _⟩
 ·rename_i a b
  obtain ⟨rv, h1, rfl⟩ := Option.map_eq_some_iff.1 h
  rw [rep_str hx, rep_str hy, eqGuard_str, binOp_str]
  exact ⟨rv, by simpa using run_pureOf h1, ofValue_ok _, ofValue_cl _ _⟩
 ·rename_i a b
  rw [rep_bool hx, rep_bool hy, eqGuard_bool]
  split at h
  ·rename_i hty
   cases h
   have hd := (hT.ty _ _ hty).d
   have hd : P.underlying t = some .bool := hd
   refine ⟨.bool (a == b), ?_, .p _ _ (.bool _), cl_p _ _⟩
   simp [Go.binOp, Op.equal, Op.maxDepth, run_equalIn_bool' w 9999 t a b hd]
  ·rename_i hty
   cases h
   have hd := (hT.ty _ _ hty).d
   have hd : P.underlying t = some .bool := hd
   refine ⟨.bool (!(a == b)), ?_, .p _ _ (.bool _), cl_p _ _⟩
   simp [Go.binOp, Op.equal, Op.maxDepth, run_equalIn_bool' w 9999 t a b hd]
  ·cases h
 ·rename_i xs ys
  split at h
  ·rename_i ty hty
   have hY := hT.ty _ _ hty
   cases hb : (ty.cmp && Nat.beq xs.length ty.size && Nat.beq ys.length ty.size) with
   | false => rw [hb] at h; cases h
   | true =>
    rw [hb] at h
    simp only [cond_true] at h
    simp only [Bool.and_eq_true] at hb
    obtain ⟨⟨hc, h1⟩, h2⟩ := hb
    have hC := hY.cmp hc
    have l1 := Nat.eq_of_beq_eq_true h1
    have l2 := Nat.eq_of_beq_eq_true h2
    split at h
    ·obtain ⟨b, hb, rfl⟩ := Option.map_eq_some_iff.1 h
     obtain ⟨ns, ms, e1, e2, rfl⟩ := veq_ints hb
     obtain ⟨rfl, n1⟩ := agg_ints hx e1
     obtain ⟨rfl, n2⟩ := agg_ints hy e2
     refine ⟨_, ?_, .p _ _ (.bool _), cl_p _ _⟩
     unfold nums
     rw [Sem.run_bind, run_eqGuard_agg w .eql t ox oy _ _ hC.guard]
     simp only [Result.andThen_ok, run_eql_struct]
     have := hC.eq ns ms w (by omega) (by omega)
     unfold nums Op.equal Op.maxDepth at this
     rw [this]
     rfl
    ·obtain ⟨b, hb, rfl⟩ := Option.map_eq_some_iff.1 h
     obtain ⟨ns, ms, e1, e2, rfl⟩ := veq_ints hb
     obtain ⟨rfl, n1⟩ := agg_ints hx e1
     obtain ⟨rfl, n2⟩ := agg_ints hy e2
     refine ⟨_, ?_, .p _ _ (.bool _), cl_p _ _⟩
     unfold nums
     rw [Sem.run_bind, run_eqGuard_agg w .neq t ox oy _ _ hC.guard]
     simp only [Result.andThen_ok, run_neq_struct]
     have := hC.eq ns ms w (by omega) (by omega)
     unfold nums Op.equal Op.maxDepth at this
     rw [this]
     rfl
    ·cases h
  ·cases h
 ·cases h

theorem vbinK_ok (hT : TabOk P T) {op : BinOp} {t : Nat} {x y v : VV} {rx ry : Value} {ox oy : Operand} (h : vbinK T op t x y oy = some v) (hx : RepV w K H rx x) (hy : RepV w K H ry y) (hn : oy = .const .nilIface → ry = .nilIface) :
  ∃ rv, (do eqGuard op t ox oy rx ry; Go.binOp op t rx ry : Sem Value).run P w = .ok rv w ∧ RepV w K H rv v ∧ Cl H.length v := by
 unfold vbinK at h
 split at h
 ·rename_i b
  have hb : (rx = .nilIface ∧ b = true) ∨ ∃ t v, rx = .iface t v ∧ b = false := by
   cases hx with
   | p _ _ h => cases h with
    | ifn => exact .inl ⟨rfl, rfl⟩
    | ifs t v => exact .inr ⟨t, v, rfl, rfl⟩
  split at h
  ·rename_i hty
   obtain rfl := hn rfl
   obtain ⟨ms, hd⟩ : ∃ ms, P.underlying t = some (.interface ms) := (hT.ty _ _ hty).d
   have hm : P.underlying t = some (.interface (P.methodsAt t)) := by simp [Program.methodsAt, hd]
   cases h
   refine ⟨.bool b, ?_, .p _ _ (.bool _), cl_p _ _⟩
   rcases hb with ⟨rfl, rfl⟩ | ⟨t', v', rfl, rfl⟩
   ·simp [eqGuard, run_eql_nil_nil w t hm]
   ·simp [eqGuard, run_eql_held_nil w t t' v' hm]
  ·rename_i hty
   obtain rfl := hn rfl
   obtain ⟨ms, hd⟩ : ∃ ms, P.underlying t = some (.interface ms) := (hT.ty _ _ hty).d
   have hm : P.underlying t = some (.interface (P.methodsAt t)) := by simp [Program.methodsAt, hd]
   cases h
   refine ⟨.bool (!b), ?_, .p _ _ (.bool _), cl_p _ _⟩
   rcases hb with ⟨rfl, rfl⟩ | ⟨t', v', rfl, rfl⟩
   ·simp [eqGuard, run_neq_nil_nil w t hm]
   ·simp [eqGuard, run_neq_held_nil w t t' v' hm]
  ·cases h
 ·exact vbin_ok hT h hx hy
theorem vbinK_int (op : BinOp) (t : Nat) (k : IntKind) (a : Int) (y : VV) (o : Operand) : vbinK T op t (.p (.int k a)) y o = vbin T op t (.p (.int k a)) y := rfl
theorem vbinK_bool (op : BinOp) (t : Nat) (a : Bool) (y : VV) (o : Operand) : vbinK T op t (.p (.bool a)) y o = vbin T op t (.p (.bool a)) y := rfl
theorem vbinK_str (op : BinOp) (t : Nat) (a : ByteArray) (y : VV) (o : Operand) : vbinK T op t (.p (.str a)) y o = vbin T op t (.p (.str a)) y := rfl
theorem vbinK_agg (op : BinOp) (t : Nat) (a : List VV) (y : VV) (o : Operand) : vbinK T op t (.agg a) y o = vbin T op t (.agg a) y := rfl

theorem vun_ok {op : UnOp} {x v : VV} {rx : Value} (h : vun op x = some v) (hx : RepV w K H rx x) : ∃ rv, (Op.unary op rx).run P w = .ok rv w ∧ RepV w K H rv v ∧ Cl H.length v := by
 unfold vun at h
 split at h
 ·obtain ⟨rv, h1, rfl⟩ := Option.map_eq_some_iff.1 h
  rw [rep_int hx]
  exact ⟨rv, run_pureOf h1, ofValue_ok _, ofValue_cl _ _⟩
 ·obtain ⟨rv, h1, rfl⟩ := Option.map_eq_some_iff.1 h
  rw [rep_bool hx]
  exact ⟨rv, run_pureOf h1, ofValue_ok _, ofValue_cl _ _⟩
 ·cases h
theorem vconvert_ok (hT : TabOk P T) {s d : Nat} {x v : VV} {rx : Value} (h : vconvert T s d x = some v) (hx : RepV w K H rx x) : ∃ rv, (Go.convert s d rx).run P w = .ok rv w ∧ RepV w K H rv v ∧ Cl H.length v := by
 unfold vconvert at h
 split at h
 ·rename_i ys k size zero agg cmp k' n hs hd
  obtain ⟨rv, h1, rfl⟩ := Option.map_eq_some_iff.1 h
  rw [rep_int hx]
  obtain ⟨ds, hds, _⟩ := (hT.ty _ _ hs).agg
  have hdd : P.underlying d = some (.int k) := (hT.ty _ _ hd).d
  refine ⟨rv, ?_, ofValue_ok _, ofValue_cl _ _⟩
  have := run_pureOf (P := P) (w := w) h1
  simp [Go.convert, run_underlying hds, run_underlying hdd, this]
 ·rename_i e ke be size zero agg cmp size' zero' agg' cmp' k n hs hd
  split at h
  ·rename_i size2 zero2 agg2 cmp2 he
   cases h
   have hds : TdOk P s (.slice e ke be) := (hT.ty _ _ hs).d
   have hdd : P.underlying d = some .string := (hT.ty _ _ hd).d
   have hde : P.underlying e = some (.int .u8) := (hT.ty _ _ he).d
   obtain ⟨hu, i, z, hi, hik, hib, hz, hzs, hk, hbe⟩ := hds
   cases hx with
   | sf A _ _ hP =>
    simp only [List.length_singleton] at hP ⊢
    generalize hrv : Value.slice A 1 1 = rv at hP
    cases hP with
    | sl _ _ _ b off _ f hc hm hkk hA hI hw hr =>
     obtain ⟨rfl, -, -⟩ := Value.slice.inj hrv
     have hA' := hA (by simp)
     subst hA'
     have k1 : k = 1 := by have := hkk _ (List.mem_singleton.2 rfl); simpa using this.symm
     subst k1
     have h0 := hw 0 [.int .u8 n] 0 (.int .u8 n) rfl rfl
     have hv := hr 0 [.int .u8 n] 0 (.int .u8 n) rfl rfl
     have hv : f 0 0 = .int .u8 n := rep_int (.p _ _ hv)
     rw [hv] at h0
     refine ⟨.string ⟨#[UInt8.ofNat n.toNat]⟩, ?_, .p _ _ (.str _), cl_p _ _⟩
     have hl : (loadCells ⟨b, off, none⟩ 1).run P w = .ok ([n].map (Value.int .u8)).toArray w := by
      have h1 : w.cell? ⟨b, off, none⟩ = some (.int .u8 n) := by simpa using h0
      exact run_loadCells_list w _ [Value.int .u8 n] fun j v hj => by
       match j, hj with
       | 0, hj => simp at hj; subst hj; simpa [Addr.add] using h1
     simp only [Go.convert, Sem.run_bind, run_underlying hu, run_underlying hdd, run_underlying hde, Result.andThen_ok]
     refine (run_bytesToString w ⟨b, off, none⟩ 1 _ [n] hl).trans ?_
     rfl
  ·cases h
 ·cases h
theorem vlen_ok (hT : TabOk P T) (hI : Inv G w K M) {t ty : Nat} {x v : VV} {rx : Value} (h : vlen T t x M = some v) (hx : RepV w K M.H rx x) : ∃ rv, (Builtin.len_ #[t] ty #[rx]).run P w = .ok rv w ∧ RepV w K M.H rv v ∧ Cl M.H.length v := by
 unfold vlen at h
 have sl : ∀ (A : Option Addr) (n c : Nat) (e ke be : Nat), TdOk P t (.slice e ke be) → (Builtin.len_ #[t] ty #[.slice A n c]).run P w = .ok (.int .i64 n) w := fun A n c e ke be hd => by
  simp [Builtin.len_, run_underlying hd.1, goInt]
 split at h
 ·rename_i e ke be size zero agg cmp hty
  have hd : TdOk P t (.slice e ke be) := (hT.ty _ _ hty).d
  cases hx with
  | bf id off n k b c A hK hn' hmc hm hA => simp only [Option.some.injEq] at h; subst h; exact ⟨_, sl _ _ _ _ _ _ hd, .p _ _ (.int _ _), cl_p _ _⟩
  | sv A c k b off xs f hcc hm hk hA hi' hw hr h1 => simp only [Option.some.injEq] at h; subst h; exact ⟨_, sl _ _ _ _ _ _ hd, .p _ _ (.int _ _), cl_p _ _⟩
  | sw v0 id0 k xs h0 ht0 =>
   cases h0 with
   | sv A c _ b off _ f hcc hm hk hA hi' hw hr h1 => simp only [Option.some.injEq] at h; subst h; exact ⟨_, sl _ _ _ _ _ _ hd, .p _ _ (.int _ _), cl_p _ _⟩
  | p v0 x0 hP =>
   cases x0 with
   | sl k xs =>
    simp only [elemsOf, Option.map_some, Option.some.injEq] at h
    subst h
    cases hP with
    | sl A c _ b off _ f hc1 hm hk hA hi' hw hr => exact ⟨_, sl _ _ _ _ _ _ hd, .p _ _ (.int _ _), cl_p _ _⟩
   | _ => simp [elemsOf] at h
  | so v0 id k xs hP ht =>
   simp only [elemsOf, Option.map_some, Option.some.injEq] at h
   subst h
   cases hP with
   | sl A c _ b off _ f hc1 hm hk hA hi' hw hr => exact ⟨_, sl _ _ _ _ _ _ hd, .p _ _ (.int _ _), cl_p _ _⟩
  | sf A k xs hP =>
   simp only [elemsOf, Option.map_some, Option.some.injEq] at h
   subst h
   exact ⟨_, sl _ _ _ _ _ _ hd, .p _ _ (.int _ _), cl_p _ _⟩
  | _ => simp [elemsOf] at h
 ·rename_i size zero agg cmp hty
  have hd : P.underlying t = some .string := (hT.ty _ _ hty).d
  split at h
  ·cases h
   rw [rep_str hx]
   exact ⟨_, by simp [Builtin.len_, run_underlying hd, goInt], .p _ _ (.int _ _), cl_p _ _⟩
  ·cases h
 ·rename_i kt et size zero agg cmp hty
  have hd : P.underlying t = some (.map kt et) := (hT.ty _ _ hty).d
  split at h
  ·cases h
   cases hx with
   | p _ _ h =>
    cases h
    exact ⟨_, by simp [Builtin.len_, run_underlying hd, goInt], .p _ _ (.int _ _), cl_p _ _⟩
  ·rename_i id
   split at h
   ·rename_i sh es ho
    cases h
    cases hx with
    | mp _ b hK hn =>
     obtain ⟨b', ents, clock, e, h1, h2, _⟩ := hI.obj id _ ho
     rw [hK] at e
     cases e
     have hg : (getObj b).run P w = .ok (.map ents clock) w := MapKept.run_getObj_map h1
     exact ⟨_, by simp [Builtin.len_, run_underlying hd, goInt, hg, h2], .p _ _ (.int _ _), cl_p _ _⟩
   ·cases h
  ·cases h
 ·rename_i n e ke size zero agg cmp hty
  have hd : TdOk P t (.arr n e ke) := (hT.ty _ _ hty).d
  cases h
  exact ⟨_, by simp [Builtin.len_, run_underlying hd.1, goInt], .p _ _ (.int _ _), cl_p _ _⟩
 ·cases h

theorem vexts_ok (mx : Bool) : ∀ (ys : List VV) (rys : List Value) (x v : VV) (rx : Value), PW (fun u c => RepV w K H u c) rys ys → RepV w K H rx x → Cl H.length x → vexts mx x ys = some v →
  ∃ rv, (rys.foldlM (fun a b => bif mx then Builtin.max2 a b else Builtin.min2 a b) rx : Sem Value).run P w = .ok rv w ∧ RepV w K H rv v ∧ Cl H.length v
 | [], rys, x, v, rx, hp, hx, hc, h => by
  have : rys = [] := List.eq_nil_of_length_eq_zero (by have := hp.1; simpa using this)
  subst this
  simp only [vexts, Option.some.injEq] at h
  subst h
  exact ⟨rx, by simp, hx, hc⟩
 | y :: ys, [], x, v, rx, hp, hx, hc, h => by have := hp.1; simp at this
 | y :: ys, ry :: rys, x, v, rx, hp, hx, hc, h => by
  simp only [vexts] at h
  cases hz : vext mx x y with
  | none => rw [hz] at h; cases h
  | some z =>
   rw [hz] at h
   simp only at h
   have hy := hp.2 0 ry y rfl rfl
   have hp' : PW (fun u c => RepV w K H u c) rys ys := ⟨by have := hp.1; simpa using this, fun i a b ha hb => hp.2 (i + 1) a b (by simpa using ha) (by simpa using hb)⟩
   unfold vext at hz
   split at hz
   ·rename_i k a k' b
    cases hz
    rw [rep_int hx, rep_int hy]
    obtain ⟨rv, h1, h2, h3⟩ := vexts_ok mx ys rys _ v (.int k (bif mx then (bif decide (b > a) then b else a) else (bif decide (b < a) then b else a))) hp' (.p _ _ (.int _ _)) (cl_p _ _) h
    refine ⟨rv, ?_, h2, h3⟩
    rw [List.foldlM_cons, Sem.run_bind]
    cases mx with
    | true =>
     simp only [cond_true, Builtin.max2, Sem.run_pure, Result.andThen_ok] at h1 ⊢
     by_cases hba : b > a <;> simpa [hba] using h1
    | false =>
     simp only [cond_false, Builtin.min2, Sem.run_pure, Result.andThen_ok] at h1 ⊢
     by_cases hba : b < a <;> simpa [hba] using h1
   ·cases hz

theorem run_part' {e n : Nat} {y : Ty} (h : TyOk P e y) {cs : Array Value} (hfit : n + y.size ≤ cs.size) : (part e cs n).run P w = .ok (bif y.agg then .agg (cs.extract n (n + y.size)) else cs.getD n undef) w := by
 unfold part
 rw [Sem.run_bind, run_isAgg' h]
 cases ha : y.agg with
 | true => simp [run_size' h]
 | false =>
  have := h.flat ha
  have hl : n < cs.size := by omega
  simp [Array.getElem?_eq_getElem hl]
theorem vindex_ok (hT : TabOk P T) {t : Nat} {x i v : VV} {rx ri : Value} (h : vindex T t x i = some v) (hx : RepV w K H rx x) (hi : RepV w K H ri i) (hc : Cl H.length x) :
  ∃ rv, (Instr.index t rx ri).run P w = .ok rv w ∧ RepV w K H rv v ∧ Cl H.length v := by
 unfold vindex at h
 split at h
 ·rename_i size zero agg cmp n hty hn
  obtain ⟨k, j, rfl, h0, rfl⟩ := idx_rep hi hn
  have hd : P.underlying t = some .string := (hT.ty _ _ hty).d
  split at h
  ·rename_i s
   split at h
   ·rename_i b hb
    cases h
    rw [rep_str hx]
    exact ⟨_, by simp [Instr.index, asIntOf, run_underlying hd, h0, hb], .p _ _ (.int _ _), cl_p _ _⟩
   ·cases h
  ·cases h
 ·rename_i m e ke size zero agg cmp n hty hn
  obtain ⟨k, j, rfl, h0, rfl⟩ := idx_rep hi hn
  have hd : TdOk P t (.arr m e ke) := (hT.ty _ _ hty).d
  obtain ⟨hu, ii, hii, hik⟩ := hd
  split at h
  ·rename_i y cs hye
   have hY := hT.ty _ _ hye
   have hke : y.size = ke := by
    obtain ⟨i2, hi2, h3, _⟩ := hY.info
    rw [hii] at hi2
    cases hi2
    omega
   cases hb : Nat.blt j.toNat m with
   | false => rw [hb] at h; cases h
   | true =>
    rw [hb] at h
    simp only [cond_true] at h
    have hlt : j.toNat < m := by simpa [Nat.blt_eq] using hb
    have hlt' : j < (m : Int) := by omega
    cases hx with
    | agg vs _ hs h1 hh =>
     cases hag : y.agg with
     | true =>
      rw [hag] at h
      simp only [cond_true, Option.some.injEq] at h
      subst h
      refine ⟨.agg (vs.extract (j.toNat * ke) (j.toNat * ke + y.size)), ?_, ?_, ?_⟩
      ·have hpart : (part e vs (j.toNat * ke)).run P w = .ok (.agg (vs.extract (j.toNat * ke) (j.toNat * ke + y.size))) w := by
        unfold part
        rw [Sem.run_bind, run_isAgg' hY, hag]
        simp [run_size' hY]
       simp [Instr.index, asIntOf, run_underlying hu, h0, hlt', sizeOf, typeInfo, hii, hik, hpart]
      ·refine .agg _ _ (by simp; omega) (fun i u hu => ?_) fun i u c hu hcc => ?_
       ·rw [Array.getElem?_extract] at hu
        split at hu
        ·exact h1 _ u hu
        ·cases hu
       ·rw [Array.getElem?_extract] at hu
        split at hu
        ·rw [List.getElem?_take] at hcc
         split at hcc
         ·rw [List.getElem?_drop] at hcc
          exact hh _ u c hu hcc
         ·cases hcc
        ·cases hu
      ·exact cl_agg.2 fun c hcc => cl_agg.1 hc c (List.mem_of_mem_drop (List.mem_of_mem_take hcc))
     | false =>
      rw [hag] at h
      simp only [cond_false] at h
      have hl := (List.getElem?_eq_some_iff.1 h).1
      have hf := hY.flat hag
      refine ⟨vs.getD (j.toNat * ke) undef, ?_, ?_, cl_agg.1 hc v (List.mem_of_getElem? h)⟩
      ·simp only [Instr.index, asIntOf, Sem.run_bind, Sem.run_pure, Result.andThen_ok, run_underlying hu, sizeOf, typeInfo, program, Sem.run, hii, hik, h0, hlt', and_self, if_true]
       rw [run_part' hY (by omega), hag]
       rfl
      ·exact hh _ _ v (by simp [Array.getElem?_eq_getElem (show j.toNat * ke < vs.size by omega)]) h
  ·cases h
 ·cases h
end
end Go.Proofs.YtnjgdlmddlinaaaDoor.Vm

/- A machine on values: its operations are true, part 7: slice literals, made slices, maps. -/
namespace Go.Proofs.YtnjgdlmddlinaaaDoor.Vm
open Go
section
variable {P : Program} {T : Tab} {G : Ghost} {w : World} {K : Nat → Option Nat} {M M' : Mem} {H : List VObj}

theorem toP_rep {v : Value} {x : VV} {u : PV} (h : RepV w K H v x) (e : toP x = some u) : RepP w (Im K H) v u := by
 cases h with
 | p _ _ h => simp [toP] at e; subst e; exact h
 | so _ _ _ _ h _ => simp [toP] at e; subst e; exact h
 | sf _ _ _ h => simp [toP] at e; subst e; exact h
 | _ => simp [toP] at e
theorem toPs_get : ∀ {cs : List VV} {xs : List PV}, toPs cs = some xs → xs.length = cs.length ∧ ∀ (j : Nat) (u : PV), xs[j]? = some u → ∃ c, cs[j]? = some c ∧ toP c = some u
 | [], xs, h => by simp [toPs] at h; subst h; simp
 | c :: cs, xs, h => by
  unfold toPs at h
  cases h1 : toP c with
  | none => rw [h1] at h; cases h
  | some x =>
   cases h2 : toPs cs with
   | none => rw [h1, h2] at h; cases h
   | some ys =>
    rw [h1, h2] at h
    simp only [Option.some.injEq] at h
    subst h
    obtain ⟨l, ih⟩ := toPs_get h2
    refine ⟨by simp [l], fun j u hu => ?_⟩
    cases j with
    | zero => simp at hu; subst hu; exact ⟨c, rfl, h1⟩
    | succ j => simp at hu; simpa using ih j u hu
theorem toPss_get : ∀ {css : List (List VV)} {xss : List (List PV)}, toPss css = some xss → xss.length = css.length ∧ ∀ (i : Nat) (x : List PV), xss[i]? = some x → ∃ cs, css[i]? = some cs ∧ toPs cs = some x
 | [], xs, h => by simp [toPss] at h; subst h; simp
 | c :: cs, xs, h => by
  unfold toPss at h
  cases h1 : toPs c with
  | none => rw [h1] at h; cases h
  | some x =>
   cases h2 : toPss cs with
   | none => rw [h1, h2] at h; cases h
   | some ys =>
    rw [h1, h2] at h
    simp only [Option.some.injEq] at h
    subst h
    obtain ⟨l, ih⟩ := toPss_get h2
    refine ⟨by simp [l], fun j u hu => ?_⟩
    cases j with
    | zero => simp at hu; subst hu; exact ⟨c, rfl, h1⟩
    | succ j => simp at hu; simpa using ih j u hu

theorem fill_seq (ke : Nat) : ∀ (ps : List (Nat × Value)) (qs : List (Nat × VV)) (vs : List VV) (i0 : Nat) (cells : Array Value), inOrder i0 qs = some vs →
  PW (fun (p : Nat × Value) (q : Nat × VV) => p.1 = q.1 ∧ RepV w K H p.2 q.2) ps qs → (∀ v ∈ vs, (cellsOf v).length = ke ∧ (cellsOf v).all isCell = true) → (i0 + vs.length) * ke ≤ cells.size →
  ∃ cells', Instr.fill (fun i => some (i * ke, ke)) cells ps = some cells' ∧ cells'.toList = cells.toList.take (i0 * ke) ++ ps.flatMap (·.2.cells.toList) ++ cells.toList.drop ((i0 + vs.length) * ke) ∧
   (ps.flatMap (·.2.cells.toList)).length = vs.length * ke ∧
   ∀ (i : Nat) (v : VV) (j : Nat) (c : VV), vs[i]? = some v → (cellsOf v)[j]? = some c → j < ke ∧ ∃ r, (ps.flatMap (·.2.cells.toList))[i * ke + j]? = some r ∧ RepV w K H r c ∧ isOne r = true
 | [], qs, vs, i0, cells, ho, hp, hv, hs => by
  have : qs = [] := List.eq_nil_of_length_eq_zero (by have := hp.1; simpa using this.symm)
  subst this
  simp only [inOrder, Option.some.injEq] at ho
  subst ho
  exact ⟨cells, rfl, by simp, by simp, fun i v j c h => by simp at h⟩
 | (i, rv) :: ps, [], vs, i0, cells, ho, hp, hv, hs => by have := hp.1; simp at this
 | (i, rv) :: ps, (j, v) :: qs, vs, i0, cells, ho, hp, hv, hs => by
  obtain ⟨hij, hrv⟩ := hp.2 0 _ _ rfl rfl
  simp only at hij hrv
  subst hij
  simp only [inOrder] at ho
  cases hb : Nat.beq i0 i with
  | false => rw [hb] at ho; cases ho
  | true =>
   rw [hb] at ho
   simp only [cond_true] at ho
   obtain rfl := Nat.eq_of_beq_eq_true hb
   obtain ⟨vs', h1, rfl⟩ := Option.map_eq_some_iff.1 ho
   obtain ⟨hl, hc⟩ := hv v (by simp)
   obtain ⟨hrs, hrc⟩ := cells_rep hrv hc
   have hlen : rv.cells.toList.length = ke := by simp; omega
   have hsz : (i0 + (vs'.length + 1)) * ke ≤ cells.size := hs
   have hsz2 : i0 * ke + ke + vs'.length * ke ≤ cells.size := by
    have e : (i0 + (vs'.length + 1)) * ke = i0 * ke + ke + vs'.length * ke := by simp only [Nat.add_mul, Nat.one_mul]; omega
    omega
   have e := fold_set (i0 * ke) rv.cells.toList 0 cells (by omega)
   simp only [Nat.add_zero] at e
   have hp' : PW (fun (p : Nat × Value) (q : Nat × VV) => p.1 = q.1 ∧ RepV w K H p.2 q.2) ps qs := ⟨by have := hp.1; simpa using this, fun k a b ha hb => hp.2 (k + 1) a b (by simpa using ha) (by simpa using hb)⟩
   generalize hcn : (rv.cells.toList.zipIdx 0).foldl (fun (cs : Array Value) (p : Value × Nat) => cs.setIfInBounds (i0 * ke + p.2) p.1) cells = cells1 at e
   have hsize1 : cells1.size = cells.size := by
    have := congrArg List.length e
    simp at this
    omega
   obtain ⟨cells', f1, f2, f3, f4⟩ := fill_seq ke ps qs vs' (i0 + 1) cells1 h1 hp' (fun v hv' => hv v (by simp [hv'])) (by rw [hsize1, show i0 + 1 + vs'.length = i0 + (vs'.length + 1) from by omega]; exact hsz)
   refine ⟨cells', ?_, ?_, ?_, ?_⟩
   ·simp only [Instr.fill]
    rw [if_neg (by simp; omega)]
    have e2 : rv.cells.zipIdx.foldl (fun (cs : Array Value) (p : Value × Nat) => cs.setIfInBounds (i0 * ke + p.2) p.1) cells = cells1 := by
     rw [← hcn, ← Array.foldl_toList]
     simp
    rw [e2]
    exact f1
   ·rw [f2, e]
    have t1 : (cells.toList.take (i0 * ke) ++ rv.cells.toList ++ cells.toList.drop (i0 * ke + rv.cells.toList.length)).take ((i0 + 1) * ke) = cells.toList.take (i0 * ke) ++ rv.cells.toList := by
     rw [List.take_left']
     simp only [List.length_append, List.length_take, Array.length_toList, hlen, Nat.add_mul, Nat.one_mul]
     simp at hlen
     omega
    have t2 : (cells.toList.take (i0 * ke) ++ rv.cells.toList ++ cells.toList.drop (i0 * ke + rv.cells.toList.length)).drop ((i0 + 1 + vs'.length) * ke) = cells.toList.drop ((i0 + (vs'.length + 1)) * ke) := by
     have l1 : (cells.toList.take (i0 * ke) ++ rv.cells.toList).length = i0 * ke + ke := by
      simp only [List.length_append, List.length_take, Array.length_toList] at hlen ⊢
      omega
     have l2 : i0 * ke + ke ≤ (i0 + 1 + vs'.length) * ke := by simp only [Nat.add_mul, Nat.one_mul]; omega
     rw [List.drop_append, List.drop_of_length_le (by omega), List.nil_append, l1, List.drop_drop, hlen]
     congr 1
     rw [show i0 + (vs'.length + 1) = i0 + 1 + vs'.length from by omega]
     omega
    rw [t1, t2]
    simp
   ·simp only [List.flatMap_cons, List.length_append, f3, hlen, List.length_cons, Nat.add_mul]
    omega
   ·intro i v' j c hi hj
    cases i with
    | zero =>
     simp at hi
     subst hi
     have hjl := (List.getElem?_eq_some_iff.1 hj).1
     refine ⟨by omega, ?_⟩
     have hr : rv.cells[j]? = some (rv.cells[j]'(by omega)) := Array.getElem?_eq_getElem _
     obtain ⟨a1, a2⟩ := hrc j _ c hr hj
     refine ⟨_, ?_, a1, a2⟩
     rw [List.flatMap_cons, Nat.zero_mul, Nat.zero_add, List.getElem?_append_left (by show j < rv.cells.toList.length; omega)]
     rw [Array.getElem?_toList]
     exact hr
    | succ i =>
     simp at hi
     obtain ⟨h1, r, h2, h3⟩ := f4 i v' j c hi hj
     refine ⟨h1, r, ?_, h3⟩
     rw [List.flatMap_cons, List.getElem?_append_right (by rw [hlen, Nat.add_mul]; omega), hlen]
     rw [show (i + 1) * ke + j - ke = i * ke + j from by rw [Nat.add_mul]; omega]
     exact h2

theorem vbuildSlice_ok (hT : TabOk P T) (hI : Inv G w K M) {t n : Nat} {ps : Array (Nat × Operand)} {ρ : Operand → Value} {ρv : Operand → VV} {v : VV} (hρ : ∀ x, RepV w K M.H (ρ x) (ρv x)) (hc : ∀ x, Cl M.H.length (ρv x))
  (h : vbuildSlice T t n (ps.toList.map fun p => (p.1, ρv p.2)) = some v) :
  ∃ rv w', (Instr.buildSlice t n (ps.map fun (i, x) => (i, ρ x))).run P w = .ok rv w' ∧ RepV w' K M.H rv v ∧ Cl M.H.length v ∧ Ext w K M.H w' K M.H ∧ Inv G w' K M := by
 unfold vbuildSlice at h
 split at h
 ·rename_i e ke be size zero agg cmp vs hty ho
  have hd : TdOk P t (.slice e ke be) := (hT.ty _ _ hty).d
  obtain ⟨hu, i, z, hi, hik, hib, hz, hzs, hk, hbe⟩ := hd
  cases hb : (Nat.beq vs.length n && Nat.ble (n * ke) 16777216 && vs.all (fun v => Nat.beq (cellsOf v).length ke && (cellsOf v).all isCell)) with
  | false => rw [hb] at h; cases h
  | true =>
   rw [hb] at h
   simp only [cond_true] at h
   simp only [Bool.and_eq_true, List.all_eq_true] at hb
   obtain ⟨⟨b1, b2⟩, b3⟩ := hb
   have hn := Nat.eq_of_beq_eq_true b1
   have hsz : n * ke ≤ 16777216 := Nat.le_of_ble_eq_true b2
   have hv : ∀ v ∈ vs, (cellsOf v).length = ke ∧ (cellsOf v).all isCell = true := fun v hv => ⟨Nat.eq_of_beq_eq_true (b3 v hv).1, List.all_eq_true.2 (b3 v hv).2⟩
   have hps := parts_PW (ps := ps) hρ
   have main : ∀ cells0 : Array Value, cells0.size = n * ke → ∃ cells', Instr.fill (fun i => some (i * ke, ke)) cells0 (ps.map fun (i, x) => (i, ρ x)).toList = some cells' ∧ cells'.size = n * ke ∧
     ∀ (i : Nat) (v : VV) (j : Nat) (c : VV), vs[i]? = some v → (cellsOf v)[j]? = some c → j < ke ∧ ∃ r, cells'.toList[i * ke + j]? = some r ∧ RepV w K M.H r c ∧ isOne r = true := by
    intro cells0 h0
    obtain ⟨cells', f1, f2, f3, f4⟩ := fill_seq ke _ _ vs 0 cells0 ho hps hv (by rw [Nat.zero_add, hn, h0]; exact Nat.le_refl _)
    have : cells'.toList = (ps.map fun (i, x) => (i, ρ x)).toList.flatMap (·.2.cells.toList) := by
     rw [f2, Nat.zero_mul, List.take_zero, List.nil_append, List.drop_of_length_le (by simp [h0, hn]), List.append_nil]
    refine ⟨cells', f1, ?_, ?_⟩
    ·rw [← Array.length_toList, this, f3, hn]
    ·rw [this]; exact f4
   have hrun : ∃ cells', (Instr.buildSlice t n (ps.map fun (i, x) => (i, ρ x))).run P w = .ok (.slice (some ⟨w.heap.size, 0, none⟩) n n) (w.alloc (.cells cells' e)) ∧ cells'.size = n * ke ∧
     ∀ (i : Nat) (v : VV) (j : Nat) (c : VV), vs[i]? = some v → (cellsOf v)[j]? = some c → j < ke ∧ ∃ r, cells'.toList[i * ke + j]? = some r ∧ RepV w K M.H r c ∧ isOne r = true := by
    by_cases h0 : n * ke = 0
    ·obtain ⟨cells', f1, f2, f3⟩ := main #[] (by simp [h0])
     refine ⟨cells', ?_, f2, f3⟩
     have hlt : ¬ 16777216 < n * ke := by omega
     have hn0 : n = 0 := by rcases Nat.mul_eq_zero.1 h0 with h | h <;> omega
     subst hn0
     simp [Instr.buildSlice, run_underlying hu, sizeOf, typeInfo, hi, hik, newRow, Array.range_zero']
     have f1' : Instr.fill (fun i => some (i * ke, ke)) #[] (List.map (fun x => (x.fst, ρ x.snd)) ps.toList) = some cells' := by simpa using f1
     rw [f1']
     simp [newObj, Sem.run, World.alloc_eq]
    ·obtain ⟨cells', f1, f2, f3⟩ := main ((Array.range (n * ke)).map (z.cells[· % z.cells.size]!)) (by simp)
     refine ⟨cells', ?_, f2, f3⟩
     have hlt : ¬ 16777216 < n * ke := by omega
     simp only [Instr.buildSlice, Sem.run_bind, run_underlying hu, Result.andThen_ok, sizeOf, typeInfo, program, Sem.run, hi, Sem.run_pure, hik, zeroValue, hz]
     rw [if_neg (by omega)]
     simp only [Sem.run_bind, Sem.run_pure, Result.andThen_ok, h0, if_false, program, Sem.run, hi, hz, f1, newRow]
     simp
   obtain ⟨cells', hrun, hcs, hrow⟩ := hrun
   have hb1 : ∀ b, b < w.heap.size → (w.alloc (.cells cells' e)).heap[b]? = w.heap[b]? := fun b hb => heap_alloc_old w (.cells cells' e) b hb
   have hnew : (w.alloc (.cells cells' e)).heap[w.heap.size]? = some (.cells cells' e (0, 0)) := heap_alloc_new w (.cells cells' e)
   obtain ⟨hE, hI'⟩ := step_made hI (w' := w.alloc (.cells cells' e)) ⟨rfl, rfl, rfl, by show w.heap.size ≤ (w.heap.push _).size; simp⟩ hb1
   have him : ∀ o, Im K M.H w.heap.size o := fun o i ob hob hK => by
    have := hI.lt hob hK
    omega
   have hvs : ∀ v ∈ vs, Cl M.H.length v := by
    have : ∀ (i0 : Nat) (qs : List (Nat × VV)) (vs : List VV), inOrder i0 qs = some vs → ∀ v ∈ vs, ∃ q ∈ qs, q.2 = v := by
     intro i0 qs
     induction qs generalizing i0 with
     | nil => intro vs h v hv; simp [inOrder] at h; subst h; cases hv
     | cons q qs ih =>
      intro vs h v hv
      obtain ⟨j, u⟩ := q
      simp only [inOrder] at h
      cases hb : Nat.beq i0 j with
      | false => rw [hb] at h; cases h
      | true =>
       rw [hb] at h
       simp only [cond_true] at h
       obtain ⟨vs', h1, rfl⟩ := Option.map_eq_some_iff.1 h
       rcases List.mem_cons.1 hv with rfl | hv
       ·exact ⟨(j, v), by simp, rfl⟩
       ·obtain ⟨q, hq, e⟩ := ih _ vs' h1 v hv
        exact ⟨q, by simp [hq], e⟩
    intro v hv
    obtain ⟨q, hq, rfl⟩ := this _ _ _ ho v hv
    obtain ⟨p, _, rfl⟩ := List.mem_map.1 hq
    exact hc _
   split at h
   ·rename_i xs hx
    cases h
    obtain ⟨hl, hget⟩ := toPss_get hx
    have hlen : xs.length = n := by rw [hl]; simp [hn]
    refine ⟨_, _, hrun, ?_, fun r hr => by simp [refs] at hr, hE, hI'⟩
    have hrow2 := RepP.row (w := w.alloc (.cells cells' e)) (I := Im K M.H) (g := w.heap.size) (k := ke) (cap := n) (xs := xs) (all := cells'.toList) hk hnew
     (fun x hx => by
       obtain ⟨i, hi, rfl⟩ := List.getElem_of_mem hx
       obtain ⟨cs, h1, h2⟩ := hget i _ (List.getElem?_eq_getElem hi)
       rw [(toPs_get h2).1]
       rw [List.getElem?_map] at h1
       obtain ⟨v, h3, rfl⟩ := Option.map_eq_some_iff.1 h1
       exact (hv v (List.mem_of_getElem? h3)).1) (by omega) (by
        unfold maxLen
        have : n ≤ n * ke := Nat.le_mul_of_pos_right _ hk
        omega) (fun o _ => him o) (fun o _ => by simp)
     (fun i x j u hx hu => by
       obtain ⟨cs, h1, h2⟩ := hget i x hx
       rw [List.getElem?_map] at h1
       obtain ⟨v, h3, rfl⟩ := Option.map_eq_some_iff.1 h1
       obtain ⟨c, h4, h5⟩ := (toPs_get h2).2 j u hu
       obtain ⟨g1, r, g2, g3, g4⟩ := hrow i v j c h3 h4
       exact ⟨g1, r, g2, (toP_rep g3 h5).of_ext hE⟩)
    rw [hlen] at hrow2
    have := RepV.sf (w := w.alloc (.cells cells' e)) (K := K) (H := M.H) (some ⟨w.heap.size, 0, none⟩) ke xs (by rw [hlen]; exact hrow2)
    rwa [hlen] at this
   ·cases h
    have hcl : Cl M.H.length (.sv ke (vs.map fun v => (cellsOf v).map strip1)) := fun r hr => by
     simp only [refs] at hr
     obtain ⟨cs, h1, h2⟩ := mem_refsLL.1 hr
     obtain ⟨v, h3, rfl⟩ := List.mem_map.1 h1
     obtain ⟨c, h4, h5⟩ := mem_refsL.1 h2
     obtain ⟨c0, h6, rfl⟩ := List.mem_map.1 h4
     exact strip1_cl (cl_cells (hvs v h3) c0 h6) r h5
    refine ⟨_, _, hrun, ?_, hcl, hE, hI'⟩
    have facts : ∀ (i : Nat) (x : List VV) (j : Nat) (u : VV), (vs.map fun v => (cellsOf v).map strip1)[i]? = some x → x[j]? = some u → ∃ r, cells'.toList[i * ke + j]? = some r ∧ RepV w K M.H r u ∧ isOne r = true ∧ Cl M.H.length u := by
     intro i x j u hx hu
     rw [List.getElem?_map] at hx
     obtain ⟨v, h3, rfl⟩ := Option.map_eq_some_iff.1 hx
     rw [List.getElem?_map] at hu
     obtain ⟨c, h4, rfl⟩ := Option.map_eq_some_iff.1 hu
     obtain ⟨_, r, g2, g3, g4⟩ := hrow i v j c h3 h4
     exact ⟨r, g2, strip1_ok g3, g4, strip1_cl (cl_cells (hvs v (List.mem_of_getElem? h3)) c (List.mem_of_getElem? h4))⟩
    have := RepV.sv (w := w.alloc (.cells cells' e)) (K := K) (H := M.H) (some ⟨w.heap.size, 0, none⟩) n ke w.heap.size 0 (vs.map fun v => (cellsOf v).map strip1) (fun i j => cells'.toList.getD (i * ke + j) undef) (by simp [hn]) (by
       unfold maxLen
       have : n ≤ n * ke := Nat.le_mul_of_pos_right _ hk
       omega) (fun x hx => by
      obtain ⟨v, h3, rfl⟩ := List.mem_map.1 hx
      simp [(hv v h3).1]) (fun _ => rfl) (fun i x j u _ _ => him _)
     (fun i x j u hx hu => by
       obtain ⟨r, g2, _⟩ := facts i x j u hx hu
       simp only [World.cell?, hnew, List.getD, g2, Option.getD_some, Nat.zero_add]
       simpa using g2)
     (fun i x j u hx hu => by
       obtain ⟨r, g2, g3, _, g5⟩ := facts i x j u hx hu
       simp only [List.getD, g2, Option.getD_some]
       exact g3.ext hE g5)
     (fun i x j u hx hu => by
       obtain ⟨r, g2, _, g4, _⟩ := facts i x j u hx hu
       simp only [List.getD, g2, Option.getD_some]
       exact g4)
    rwa [show (vs.map fun v => (cellsOf v).map strip1).length = n from by simp [hn]] at this
 ·cases h

theorem flat_rep {α : Type} (l : List α) : ∀ (n i : Nat), ((List.replicate n l).flatten)[i]? = if i < n * l.length then l[i % l.length]? else none
 | 0, i => by simp
 | n + 1, i => by
  rw [List.replicate_succ, List.flatten_cons]
  rcases Nat.lt_or_ge i l.length with h | h
  ·rw [List.getElem?_append_left h, if_pos (by rw [Nat.add_mul]; omega), Nat.mod_eq_of_lt h]
  ·rw [List.getElem?_append_right h, flat_rep l n (i - l.length)]
   have e : (i - l.length) % l.length = i % l.length := (Nat.mod_eq_sub_mod h).symm
   rw [e]
   by_cases h1 : i - l.length < n * l.length
   ·rw [if_pos h1, if_pos (by rw [Nat.add_mul]; omega)]
   ·rw [if_neg h1, if_neg (by rw [Nat.add_mul]; omega)]
theorem vmakeSlice_ok (hT : TabOk P T) (hI : Inv G w K M) {t : Nat} {l c v : VV} {rl rc : Value} (h : vmakeSlice T t l c M = some (v, M')) (hl : RepV w K M.H rl l) (hc : RepV w K M.H rc c) :
  ∃ rv w' K', (Instr.makeSlice t rl rc).run P w = .ok rv w' ∧ RepV w' K' M'.H rv v ∧ Cl M'.H.length v ∧ Ext w K M.H w' K' M'.H ∧ Inv G w' K' M' := by
 unfold vmakeSlice at h
 split at h
 ·rename_i e ke be size zero agg cmp n m hty hn hm
  obtain ⟨kl, il, rfl, hl0, rfl⟩ := idx_rep hl hn
  obtain ⟨kc, ic, rfl, hc0, rfl⟩ := idx_rep hc hm
  have hd : TdOk P t (.slice e ke be) := (hT.ty _ _ hty).d
  obtain ⟨hu, i, z, hi, hik, hib, hz, hzs, hk, hbe⟩ := hd
  split at h
  ·rename_i y hye
   have hY := hT.ty _ _ hye
   cases hb : (Nat.ble (ic.toNat * be) 140737488355328 && Nat.ble ic.toNat 9223372036854775807) with
   | false => rw [hb] at h; cases h
   | true =>
    rw [hb] at h
    simp only [cond_true] at h
    simp only [Bool.and_eq_true] at hb
    have hbb : ic.toNat * be ≤ 140737488355328 := Nat.le_of_ble_eq_true hb.1
    have hcm : ic.toNat ≤ 9223372036854775807 := Nat.le_of_ble_eq_true hb.2
    obtain ⟨i2, hi2, hs2, hz2⟩ := hY.info
    rw [hi] at hi2
    cases hi2
    rw [hz] at hz2
    cases hz2
    have hzc : y.z.cells = y.zero.toArray := zero_cells hY
    have hbytes : (i.bytes : Int) * ic ≤ 281474976710656 := by
     rw [hib]
     have e : (be : Int) * ic = ((ic.toNat * be : Nat) : Int) := by
      rw [Int.natCast_mul, Int.toNat_of_nonneg hc0, Int.mul_comm]
     rw [e]
     omega
    have hrunG : il ≤ ic → (Instr.makeSlice t (.int kl il) (.int kc ic)).run P w = .ok (.slice (some ⟨w.heap.size, 0, none⟩) il.toNat ic.toNat) (w.alloc (.cells (madeCells y.z.cells (ic.toNat * i.size)) e)) :=
     fun hle => run_make (P := P) w t e i y.z hu hi hz kl kc il ic hl0 hle hbytes (by omega)
    have hnew := heap_alloc_new w (.cells (madeCells y.z.cells (ic.toNat * i.size)) e)
    have hold : ∀ b, b < w.heap.size → (w.alloc (.cells (madeCells y.z.cells (ic.toNat * i.size)) e)).heap[b]? = w.heap[b]? := fun b hb => heap_alloc_old w _ b hb
    have hcalm : Calm w (w.alloc (.cells (madeCells y.z.cells (ic.toNat * i.size)) e)) := ⟨rfl, rfl, rfl, by show w.heap.size ≤ (w.heap.push _).size; simp⟩
    have hkb : ∀ b, (some w.heap.size : Option Nat) = some b → w.heap.size ≤ b ∧ b < (w.alloc (.cells (madeCells y.z.cells (ic.toNat * i.size)) e)).heap.size := fun b hb => by
     cases hb
     exact ⟨Nat.le_refl _, by show _ < (w.heap.push _).size; simp⟩
    cases hnm : Nat.beq il.toNat ic.toNat with
    | true =>
     rw [hnm] at h
     simp only [cond_true, Option.some.injEq, Prod.mk.injEq] at h
     obtain ⟨rfl, rfl⟩ := h
     have hne := Nat.eq_of_beq_eq_true hnm
     have hzl : (y.zero.map ofValue).length = ke := by rw [List.length_map, hY.zlen, ← hs2, hik]
     obtain ⟨hE, hI'⟩ := step_new hI hcalm hold (.obj ((List.replicate il.toNat (y.zero.map ofValue)).flatten)) (some w.heap.size) hkb
      (fun c hcc r hr => by
        simp only [contents, List.mem_flatten] at hcc
        obtain ⟨l, h1, h2⟩ := hcc
        rw [List.eq_of_mem_replicate h1] at h2
        obtain ⟨v, _, rfl⟩ := List.mem_map.1 h2
        rw [ofValue_refs] at hr
        cases hr)
      (fun hE b1 hb1 => by
        cases hb1
        refine ⟨_, e, hnew, ?_, fun j u c hu hcc => ?_⟩
        ·rw [size_madeCells]
         simp [hik, hne, hzl, hY.zlen, ← hs2]
        ·rw [flat_rep, hzl] at hcc
         split at hcc
         ·rename_i hlt
          have hjz : j % ke < y.zero.length := by rw [hY.zlen, ← hs2, hik]; exact Nat.mod_lt _ hk
          rw [List.getElem?_map, List.getElem?_eq_getElem hjz] at hcc
          simp only [Option.map_some, Option.some.injEq] at hcc
          subst hcc
          have : u = y.zero[j % ke] := by
           simp only [madeCells, Array.getElem?_map] at hu
           obtain ⟨j', h1, rfl⟩ := Option.map_eq_some_iff.1 hu
           have h1' := Array.getElem?_eq_some_iff.1 h1
           obtain ⟨h2, h3⟩ := h1'
           simp at h3
           subst h3
           rw [hzc]
           have e2 : y.zero.toArray.size = ke := by simp [hY.zlen, ← hs2, hik]
           rw [e2]
           simp [hjz]
          subst this
          exact ⟨ofValue_ok _, hY.one _ (List.getElem_mem hjz)⟩
         ·cases hcc)
     have hr := hrunG (by omega)
     refine ⟨_, _, _, hr, .bf _ _ _ _ w.heap.size _ _ (fun _ => upd_same _ _ _) (fun a b hab => ?_) (by omega) (by unfold maxLen; omega) (fun _ => rfl) (fun _ => ⟨_, _, _, hnew, (by simp only [madeCells, Array.size_map, Array.size_range]; rw [hik]; omega)⟩), fun r hr => ?_, hE, hI'⟩
     ·simp only [Mem.push, List.getElem?_append_right (Nat.le_refl _), Nat.sub_self, List.getElem?_cons_zero] at hab
      cases hab
     ·simp [refs] at hr
      simp [Mem.push, hr]
    | false =>
     rw [hnm] at h
     simp only [cond_false] at h
     cases hn0 : Nat.beq il.toNat 0 with
     | false => rw [hn0] at h; cases h
     | true =>
      rw [hn0] at h
      simp only [cond_true, Option.some.injEq, Prod.mk.injEq] at h
      obtain ⟨rfl, rfl⟩ := h
      have hil := Nat.eq_of_beq_eq_true hn0
      obtain ⟨hE, hI'⟩ := step_new hI hcalm hold (.clm 0 ke) (some w.heap.size) hkb (by simp [contents]) (fun _ => by intro b hb; cases hb; exact ⟨_, e, hnew, by simp⟩)
      have hr := hrunG (by omega)
      rw [hil] at hr
      refine ⟨_, _, _, hr, ?_, fun r hr => ?_, hE, hI'⟩
      ·refine .so _ _ _ _ (.sl _ ic.toNat ke w.heap.size 0 [] (fun _ _ => undef) (by simp) (by unfold maxLen; omega) (by simp) (by simp) (by simp) (by simp) (by simp)) fun a b hab => ?_
       simp only [Mem.push, List.getElem?_append_right (Nat.le_refl _), Nat.sub_self, List.getElem?_cons_zero, Option.some.injEq, VObj.clm.injEq] at hab
       obtain ⟨rfl, rfl⟩ := hab
       exact ⟨by simp, fun _ => ⟨rfl, .inl ⟨w.heap.size, ic.toNat, _, e, upd_same _ _ _, by simp, hnew, by rw [size_madeCells, hik]; exact Nat.le_refl _⟩⟩⟩
      ·simp [refs] at hr
       simp [Mem.push, hr]
  ·cases h
 ·cases h
end
end Go.Proofs.YtnjgdlmddlinaaaDoor.Vm

/- A machine on values: its operations are true, part 8: maps; and all of them together. -/
namespace Go.Proofs.YtnjgdlmddlinaaaDoor.Vm
open Go
section
variable {P : Program} {T : Tab} {G : Ghost} {w : World} {K : Nat → Option Nat} {M M' : Mem} {H : List VObj}

def aidx (ks : List Int) : List (List Int × VV) → Option Nat
 | [] => none
 | (k, _) :: r => bif decide (k = ks) then some 0 else (aidx ks r).map (· + 1)
theorem PW.of_arr' {w : World} {K : Nat → Option Nat} {H : List VObj} {sh : KSh} {ents : Array MapEntry} {es : List (List Int × VV)} (h2 : ents.size = es.length)
  (h3 : ∀ (i : Nat) (e : MapEntry) (ks : List Int) (v : VV), ents[i]? = some e → es[i]? = some (ks, v) → e.key = keyVal sh ks ∧ ks.length = sh.len ∧ RepV w K H e.val v) :
  PW (fun (e : MapEntry) (p : List Int × VV) => e.key = keyVal sh p.1 ∧ p.1.length = sh.len ∧ RepV w K H e.val p.2) ents.toList es :=
 ⟨by simpa using h2, fun i a b ha hb => h3 i a b.1 b.2 (by simpa using ha) hb⟩
theorem assoc_aidx (ks : List Int) : ∀ es : List (List Int × VV), assoc ks es = (aidx ks es).bind fun j => (es[j]?).map (·.2)
 | [] => rfl
 | (k, v) :: r => by
  simp only [assoc, aidx]
  by_cases h : k = ks
  ·simp [h]
  ·simp only [h, decide_false, cond_false]
   rw [assoc_aidx ks r]
   cases aidx ks r <;> simp
theorem assocSet_aidx (ks : List Int) (v : VV) : ∀ es : List (List Int × VV), assocSet ks v es = match aidx ks es with
  | some j => es.set j (ks, v)
  | none => es ++ [(ks, v)]
 | [] => rfl
 | (k, u) :: r => by
  simp only [assocSet, aidx]
  by_cases h : k = ks
  ·simp [h]
  ·simp only [h, decide_false, cond_false]
   rw [assocSet_aidx ks v r]
   cases aidx ks r <;> simp
theorem aidx_spec {ks : List Int} : ∀ {es : List (List Int × VV)} {j : Nat}, aidx ks es = some j → ∃ u, es[j]? = some (ks, u)
 | [], j, h => by simp [aidx] at h
 | (k, u) :: r, j, h => by
  simp only [aidx] at h
  by_cases hk : k = ks
  ·simp [hk] at h
   subst h
   exact ⟨u, by simp [hk]⟩
  ·simp only [hk, decide_false, cond_false] at h
   obtain ⟨j', h1, rfl⟩ := Option.map_eq_some_iff.1 h
   simpa using aidx_spec h1

def Ents (w : World) (K : Nat → Option Nat) (H : List VObj) (sh : KSh) (l : List MapEntry) (es : List (List Int × VV)) : Prop :=
 PW (fun (e : MapEntry) (p : List Int × VV) => e.key = keyVal sh p.1 ∧ p.1.length = sh.len ∧ RepV w K H e.val p.2) l es
theorem Ents.tail {sh : KSh} {e : MapEntry} {l : List MapEntry} {p : List Int × VV} {es : List (List Int × VV)} (h : Ents w K H sh (e :: l) (p :: es)) : Ents w K H sh l es :=
 ⟨by have := h.1; simpa using this, fun i a b ha hb => h.2 (i + 1) a b (by simpa using ha) (by simpa using hb)⟩
theorem Ents.head {sh : KSh} {e : MapEntry} {l : List MapEntry} {p : List Int × VV} {es : List (List Int × VV)} (h : Ents w K H sh (e :: l) (p :: es)) : e.key = keyVal sh p.1 ∧ p.1.length = sh.len ∧ RepV w K H e.val p.2 := h.2 0 e p rfl rfl

theorem find_int {q : IntKind} {n : Int} : ∀ (l : List MapEntry) (es : List (List Int × VV)) (i : Nat), Ents w K H (.int q) l es →
  Instr.findNow (.int q) (.int q n) l i = some ((aidx [n] es).bind fun j => (l[j]?).map fun e => (i + j, e.val))
 | [], es, i, h => by
  have : es = [] := List.eq_nil_of_length_eq_zero (by have := h.1; simpa using this.symm)
  subst this
  rfl
 | e :: l, [], i, h => by have := h.1; simp at this
 | e :: l, (k, v) :: es, i, h => by
  obtain ⟨h1, h2, _⟩ := h.head
  obtain ⟨m, rfl⟩ : ∃ m, k = [m] := List.length_eq_one_iff.1 h2
  have ih := find_int (n := n) l es (i + 1) h.tail
  simp only [keyVal] at h1
  simp only [Instr.findNow, h1, Instr.sameNow, if_true, aidx]
  by_cases hm : n = m
  ·subst hm
   simp
  ·have hm' : (n == m) = false := by simpa using hm
   have hm2 : decide ([m] = [n]) = false := by simp; omega
   rw [hm', hm2, ih]
   cases aidx [n] es with
   | none => simp
   | some j => simp [Nat.add_assoc, Nat.add_comm 1 j]
theorem find_ask {kt n : Nat} (hC : CmpOk P kt n) {ks : List Int} (hn : ks.length = n) : ∀ (l : List MapEntry) (es : List (List Int × VV)) (i : Nat), Ents w K H (.nums n) l es →
  (Instr.findAsking kt (nums ks) l i).run P w = .ok ((aidx ks es).bind fun j => (l[j]?).map fun e => (i + j, e.val)) w
 | [], es, i, h => by
  have : es = [] := List.eq_nil_of_length_eq_zero (by have := h.1; simpa using this.symm)
  subst this
  rfl
 | e :: l, [], i, h => by have := h.1; simp at this
 | e :: l, (k, v) :: es, i, h => by
  obtain ⟨h1, h2, _⟩ := h.head
  have ih := find_ask hC hn l es (i + 1) h.tail
  have hkey : e.key = nums k := by rw [h1]; rfl
  have heq := hC.eq ks k w hn h2
  simp only [Instr.findAsking, Sem.run_bind, hkey, heq, Result.andThen_ok, aidx]
  by_cases hm : ks = k
  ·subst hm
   simp
  ·have hm2 : decide (k = ks) = false := by simp; exact fun h => hm h.symm
   simp only [hm, decide_false, Bool.false_eq_true, if_false, hm2, cond_false, ih]
   cases aidx ks es with
   | none => simp
   | some j => simp [Nat.add_assoc, Nat.add_comm 1 j]
theorem keyOf_rep (hT : TabOk P T) {kt : Nat} {ky : Ty} (hk : T.ty kt = some ky) {x : VV} {ks : List Int} {rx : Value} (h : keyOf ky x = some ks) (hx : RepV w K H rx x) :
  (∃ q n, ky.d = .int q ∧ shOf ky = .int q ∧ ks = [n] ∧ rx = .int q n) ∨ (shOf ky = .nums ky.size ∧ ky.cmp = true ∧ ks.length = ky.size ∧ rx = nums ks) := by
 unfold keyOf at h
 split at h
 ·rename_i k' n
  split at h
  ·rename_i k hd
   split at h
   ·rename_i e
    subst e
    cases h
    exact .inl ⟨_, n, hd, by simp [shOf, hd], rfl, rep_int hx⟩
   ·cases h
  ·cases h
 ·rename_i cs
  cases hb : (ky.cmp && Nat.beq cs.length ky.size) with
  | false => rw [hb] at h; cases h
  | true =>
   rw [hb] at h
   simp only [cond_true] at h
   simp only [Bool.and_eq_true] at hb
   obtain ⟨rfl, hl⟩ := agg_ints hx h
   refine .inr ⟨?_, hb.1, by rw [hl]; exact Nat.eq_of_beq_eq_true hb.2, rfl⟩
   unfold shOf
   split
   ·rename_i k hd
    have hC := (hT.ty _ _ hk).cmp hb.1
    obtain ⟨d, hd1, hd2, _⟩ := hC.und
    have hdd := (hT.ty _ _ hk).d
    rw [hd] at hdd
    have : P.underlying kt = some (.int k) := hdd
    rw [hd1] at this
    cases this
    exact absurd rfl (hd2 k)
   ·rfl
 ·cases h

theorem run_find (hT : TabOk P T) {kt : Nat} {ky : Ty} (hk : T.ty kt = some ky) {x : VV} {ks : List Int} {rx : Value} (h : keyOf ky x = some ks) (hx : RepV w K H rx x) {l : List MapEntry} {es : List (List Int × VV)}
  (he : Ents w K H (shOf ky) l es) :
  (∀ e, (Instr.checkKey e 10000 kt rx).run P w = .ok () w) ∧ (Instr.findKey kt rx l).run P w = .ok ((aidx ks es).bind fun j => (l[j]?).map fun e => (j, e.val)) w ∧ rx = keyVal (shOf ky) ks ∧ ks.length = (shOf ky).len ∧ Instr.sameBits 10000 rx rx = true := by
 rcases keyOf_rep hT hk h hx with ⟨q, n, hd, hs, rfl, rfl⟩ | ⟨hs, hc, hlen, rfl⟩
 ·have hu : P.underlying kt = some (.int q) := by have := (hT.ty _ _ hk).d; rw [hd] at this; exact this
  rw [hs] at he ⊢
  have hf := find_int (n := n) l es 0 he
  refine ⟨fun e => by rw [show (10000 : Nat) = 9999 + 1 from rfl, Instr.checkKey]; simp [run_underlying hu], ?_, rfl, rfl, by simp [Instr.sameBits]⟩
  simp only [Instr.findKey, Sem.run_bind, run_underlying hu, Result.andThen_ok, hf]
  simp
 ·have hC := (hT.ty _ _ hk).cmp hc
  rw [hs] at he ⊢
  have hf := find_ask hC hlen l es 0 he
  obtain ⟨d, hd1, hd2, hd3, hd4⟩ := hC.und
  refine ⟨fun e => hC.key ks e w hlen, ?_, rfl, hlen, ?_⟩
  ·simp only [Instr.findKey, Sem.run_bind, run_underlying hd1, Result.andThen_ok]
   have hno : Instr.findNow d (nums ks) l 0 = none ∨ (l = [] ∧ Instr.findNow d (nums ks) l 0 = some none) := by
    cases l with
    | nil => exact .inr ⟨rfl, rfl⟩
    | cons e l =>
     refine .inl ?_
     simp only [Instr.findNow]
     have : Instr.sameNow d (nums ks) e.key = none := by
      unfold Instr.sameNow nums
      split <;> first | rfl | (rename_i h1; cases h1) | (rename_i h1 h2; cases h1)
     rw [this]
   rcases hno with h1 | ⟨rfl, h1⟩
   ·rw [h1]
    simpa using hf
   ·rw [h1]
    have : es = [] := List.eq_nil_of_length_eq_zero (by have := he.1; simpa using this.symm)
    subst this
    simp [aidx]
  ·simp only [nums, Instr.sameBits, Bool.and_eq_true, beq_self_eq_true, true_and, List.all_eq_true]
   intro p hp
   obtain ⟨a, b⟩ := p
   obtain ⟨i, hi, e⟩ := List.getElem_of_mem hp
   simp only [List.getElem_zip, Prod.mk.injEq] at e
   obtain ⟨e1, e2⟩ := e
   rw [← e1, ← e2]
   simp [Instr.sameBits]

theorem zeroV_ok {t : Nat} {y : Ty} {v : VV} (hY : TyOk P t y) (h : zeroV y = some v) : RepV w K H y.z v ∧ Cl H.length v := by
 unfold zeroV at h
 have hz := hY.zlen
 cases ha : y.agg with
 | true =>
  rw [ha] at h
  simp only [cond_true, Option.some.injEq] at h
  subst h
  refine ⟨?_, cl_agg.2 fun c hc => ?_⟩
  ·unfold Ty.z
   rw [ha]
   exact agg_of_PW (PW.of_arr (by simp) (zero_rep hY))
  ·obtain ⟨v, _, rfl⟩ := List.mem_map.1 hc
   exact ofValue_cl _ _
 | false =>
  rw [ha] at h
  simp only [cond_false] at h
  split at h
  ·rename_i z hzz
   cases h
   unfold Ty.z
   rw [ha, hzz]
   exact ⟨ofValue_ok _, ofValue_cl _ _⟩
  ·cases h
theorem vlookup_ok (hT : TabOk P T) (hI : Inv G w K M) {t : Nat} {x k v : VV} {ok : Bool} {rx rk : Value} (h : vlookup T t x k ok M = some v) (hx : RepV w K M.H rx x) (hk : RepV w K M.H rk k) :
  ∃ rv, (Instr.lookup t rx rk ok).run P w = .ok rv w ∧ RepV w K M.H rv v ∧ Cl M.H.length v := by
 unfold vlookup at h
 split at h
 ·rename_i kt e size zero agg cmp hty
  have hd : P.underlying t = some (.map kt e) := (hT.ty _ _ hty).d
  split at h
  ·rename_i ky ey hky hey
   split at h
   ·rename_i ks z hks hz
    obtain ⟨hz1, hz2⟩ := zeroV_ok (w := w) (K := K) (H := M.H) (hT.ty _ _ hey) hz
    have hzr := run_zero' (P := P) (w := w) (hT.ty _ _ hey)
    have fin : ∀ (l : Array MapEntry) (es : List (List Int × VV)), Ents w K M.H (shOf ky) l.toList es → (∀ p ∈ es, Cl M.H.length p.2) →
      (match assoc ks es with | some v => some (bif ok then VV.tup [v, .p (.bool true)] else v) | none => some (bif ok then VV.tup [z, .p (.bool false)] else z)) = some v →
      ∃ r rv b, (Instr.findKey kt rk l.toList).run P w = .ok r w ∧ (∀ e, (Instr.checkKey e 10000 kt rk).run P w = .ok () w) ∧ ((r = none ∧ rv = ey.z ∧ b = false) ∨ ∃ j, r = some (j, rv) ∧ b = true) ∧
       RepV w K M.H (if ok then .tuple #[rv, .bool b] else rv) v ∧ Cl M.H.length v := by
     intro l es he hcl h
     obtain ⟨hck, hfind, hkv, hlen, _⟩ := run_find hT hky hks hk he
     have two : ∀ (rv : Value) (u : VV) (b : Bool), RepV w K M.H rv u → Cl M.H.length u → some (bif ok then VV.tup [u, .p (.bool b)] else u) = some v → RepV w K M.H (if ok then .tuple #[rv, .bool b] else rv) v ∧ Cl M.H.length v := by
      intro rv u b hr hc e
      cases ok with
      | false => simp only [cond_false, Option.some.injEq] at e; subst e; exact ⟨hr, hc⟩
      | true =>
       simp only [cond_true, Option.some.injEq] at e
       subst e
       refine ⟨.tup _ _ rfl fun i a c ha hcc => ?_, cl_tup.2 fun c hcc => ?_⟩
       ·match i, ha, hcc with
        | 0, ha, hcc => simp at ha hcc; subst ha hcc; exact hr
        | 1, ha, hcc => simp at ha hcc; subst ha hcc; exact .p _ _ (.bool _)
        | i + 2, ha, hcc => simp at hcc
       ·simp at hcc
        rcases hcc with rfl | rfl
        ·exact hc
        ·exact cl_p _ _
     rw [assoc_aidx] at h
     cases ha : aidx ks es with
     | none =>
      rw [ha] at h hfind
      simp only [Option.bind_none] at h hfind
      obtain ⟨r1, r2⟩ := two _ z false hz1 hz2 h
      exact ⟨_, _, false, hfind, hck, .inl ⟨rfl, rfl, rfl⟩, r1, r2⟩
     | some j =>
      obtain ⟨u, hu⟩ := aidx_spec ha
      rw [ha] at h hfind
      simp only [Option.bind_some, hu, Option.map_some] at h hfind
      have hjl := (List.getElem?_eq_some_iff.1 hu).1
      have hl := he.1
      have hlj : l.toList[j]? = some (l.toList[j]'(by omega)) := List.getElem?_eq_getElem _
      rw [hlj] at hfind
      obtain ⟨_, _, hr⟩ := he.2 j _ _ hlj hu
      obtain ⟨r1, r2⟩ := two _ u true hr (hcl _ (List.mem_of_getElem? hu)) h
      exact ⟨_, _, true, hfind, hck, .inr ⟨j, rfl, rfl⟩, r1, r2⟩
    cases hx with
    | p v0 x0 hP =>
     cases hP with
     | nilm =>
      simp only at h
      obtain ⟨r, rv, b, f1, f2, f0, f3, f4⟩ := fin #[] [] ⟨rfl, fun i a b ha => by simp at ha⟩ (by simp) h
      refine ⟨_, ?_, f3, f4⟩
      rcases f0 with ⟨rfl, rfl, rfl⟩ | ⟨j, rfl, rfl⟩ <;> cases ok <;> simp at f1 <;> simp [Instr.lookup, run_underlying hd, f1, f2, hzr]
     | _ => simp at h
    | mp id b hK hn =>
     simp only at h
     cases ho : M.H[id]? with
     | none => rw [ho] at h; simp at h
     | some o =>
      rw [ho] at h
      cases o with
      | mpo sh es =>
       simp only at h
       by_cases hsh : sh = shOf ky
       ·subst hsh
        simp only [if_true] at h
        obtain ⟨b', ents, clock, e1, h1, h2, _, h3⟩ := hI.obj id _ ho
        rw [hK] at e1
        cases e1
        have hcl := hI.content ho
        obtain ⟨r, rv, bb, f1, f2, f0, f3, f4⟩ := fin ents es (PW.of_arr' h2 h3) (fun p hp => hcl p.2 (List.mem_map.2 ⟨p, hp, rfl⟩)) h
        have hg : (getObj b).run P w = .ok (.map ents clock) w := MapKept.run_getObj_map h1
        refine ⟨_, ?_, f3, f4⟩
        rcases f0 with ⟨rfl, rfl, rfl⟩ | ⟨j, rfl, rfl⟩ <;> cases ok <;> simp [Instr.lookup, run_underlying hd, hg, f1, f2, hzr]
       ·simp only [hsh, if_false] at h
        cases h
      | _ => simp at h
    | _ => simp at h
   ·cases h
  ·cases h
 ·cases h
end
end Go.Proofs.YtnjgdlmddlinaaaDoor.Vm
