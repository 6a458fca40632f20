/- A part of the proofs about the chapter of the doors; it states no condition of its own. -/
import Derived.Test.YtmagiabapakhcaaB08
import Derived.Laws.StructEq
set_option linter.unusedVariables false
set_option linter.unusedSimpArgs false
/- A machine on values: its operations are true, part 6: numbers, lengths, literals, made slices. -/
namespace Go.Proofs.Ytmagiabapakhcaa.Vm
open Go
section
variable {P : Program} {T : Tab} {G : Ghost} {w : World} {K : Nat → Option Nat} {M M' : Mem} {H : List VObj}

theorem run_pureOf {s : Sem Value} {v : Value} (h : pureOf s = some v) : s.run P w = .ok v w := by
  unfold pureOf at h
  split at h
  · cases h; rfl
  · cases h
theorem eqGuard_int {op : BinOp} {t : TypeId} {x y : Operand} {k : IntKind} {n : Int} {v : Value} : eqGuard op t x y (.int k n) v = pure () := by cases op <;> rfl
theorem eqGuard_str {op : BinOp} {t : TypeId} {x y : Operand} {s : ByteArray} {v : Value} : eqGuard op t x y (.string s) v = pure () := by cases op <;> rfl
theorem eqGuard_bool {op : BinOp} {t : TypeId} {x y : Operand} {s : Bool} {v : Value} : eqGuard op t x y (.bool s) v = pure () := by cases op <;> rfl
theorem binOp_int {op : BinOp} {t : TypeId} {k k' : IntKind} {a b : Int} : Go.binOp op t (.int k a) (.int k' b) = Go.binOp op 0 (.int k a) (.int k' b) := by cases op <;> rfl
theorem binOp_str {op : BinOp} {t : TypeId} {a b : ByteArray} : Go.binOp op t (.string a) (.string b) = Op.stringOp op a b := by cases op <;> rfl

theorem int_cells : ∀ {vs : List Value} {xs : List VV} {ns : List Int}, PW (fun u c => RepV w K H u c) vs xs → cellInts xs = some ns → vs = ns.map (Value.int .i64)
  | [], xs, ns, h, e => by
    have : xs = [] := List.eq_nil_of_length_eq_zero (by have := h.1; simpa using this.symm)
    subst this
    simp [cellInts] at e
    subst e
    rfl
  | v :: vs, [], ns, h, e => by have := h.1; simp at this
  | v :: vs, x :: xs, ns, h, e => by
    unfold cellInts at e
    split at e
    · rename_i heq; cases heq
    · rename_i n r heq
      cases heq
      obtain ⟨ns', h1, rfl⟩ := Option.map_eq_some_iff.1 e
      have h0 := h.2 0 _ _ rfl rfl
      have := rep_int h0
      subst this
      rw [int_cells (vs := vs) ⟨by have := h.1; simpa using this, fun i a b ha hb => h.2 (i + 1) a b (by simpa using ha) (by simpa using hb)⟩ h1]
      rfl
    · cases e
theorem agg_ints {v : Value} {xs : List VV} {ns : List Int} (h : RepV w K H v (.agg xs)) (e : cellInts xs = some ns) : v = nums ns ∧ ns.length = xs.length := by
  cases h with
  | agg vs cs hs h1 h =>
    have hp : PW (fun u c => RepV w K H u c) vs.toList xs := ⟨by simpa using hs, fun i a b ha hb => h i a b (by simpa using ha) hb⟩
    have := int_cells hp e
    refine ⟨?_, ?_⟩
    · unfold nums
      rw [← this]
    · rw [← hs, ← Array.length_toList, this]; simp
theorem veq_ints : ∀ {xs ys : List VV} {b : Bool}, veqCells xs ys = some b → ∃ ns ms, cellInts xs = some ns ∧ cellInts ys = some ms ∧ b = decide (ns = ms)
  | [], [], b, h => by simp [veqCells] at h; subst h; exact ⟨[], [], rfl, rfl, rfl⟩
  | [], y :: ys, b, h => by simp [veqCells] at h
  | x :: xs, [], b, h => by simp [veqCells] at h
  | x :: xs, y :: ys, b, h => by
    unfold veqCells at h
    split at h
    · rename_i h1 h2; cases h1
    · rename_i n r m s h1 h2
      cases h1
      cases h2
      obtain ⟨b', hb, rfl⟩ := Option.map_eq_some_iff.1 h
      obtain ⟨ns, ms, e1, e2, rfl⟩ := veq_ints hb
      refine ⟨n :: ns, m :: ms, by simp [cellInts, e1], by simp [cellInts, e2], ?_⟩
      by_cases h1 : n = m <;> by_cases h2 : ns = ms <;> simp [h1, h2]
    · cases h

theorem vbin_ok (hT : TabOk P T) {op : BinOp} {t : Nat} {x y v : VV} {rx ry : Value} {ox oy : Operand} (h : vbin T op t x y = some v) (hx : RepV w K H rx x) (hy : RepV w K H ry y) :
    ∃ rv, (do eqGuard op t ox oy rx ry; Go.binOp op t rx ry : Sem Value).run P w = .ok rv w ∧ RepV w K H rv v ∧ Cl H.length v := by
  unfold vbin at h
  split at h
  · rename_i k a k' b
    obtain ⟨rv, h1, rfl⟩ := Option.map_eq_some_iff.1 h
    rw [rep_int hx, rep_int hy, eqGuard_int, binOp_int]
    exact ⟨rv, by simpa using run_pureOf h1, ofValue_ok _, ofValue_cl _ _⟩
  · rename_i a b
    obtain ⟨rv, h1, rfl⟩ := Option.map_eq_some_iff.1 h
    rw [rep_str hx, rep_str hy, eqGuard_str, binOp_str]
    exact ⟨rv, by simpa using run_pureOf h1, ofValue_ok _, ofValue_cl _ _⟩
  · rename_i a b
    rw [rep_bool hx, rep_bool hy, eqGuard_bool]
    split at h
    · rename_i hty
      cases h
      have hd := (hT.ty _ _ hty).d
      have hd : P.underlying t = some .bool := hd
      refine ⟨.bool (a == b), ?_, .p _ _ (.bool _), cl_p _ _⟩
      simp [Go.binOp, Op.equal, Op.maxDepth, run_equalIn_bool' w 9999 t a b hd]
    · rename_i hty
      cases h
      have hd := (hT.ty _ _ hty).d
      have hd : P.underlying t = some .bool := hd
      refine ⟨.bool (!(a == b)), ?_, .p _ _ (.bool _), cl_p _ _⟩
      simp [Go.binOp, Op.equal, Op.maxDepth, run_equalIn_bool' w 9999 t a b hd]
    · cases h
  · rename_i xs ys
    split at h
    · rename_i ty hty
      have hY := hT.ty _ _ hty
      cases hb : (ty.cmp && Nat.beq xs.length ty.size && Nat.beq ys.length ty.size) with
      | false => rw [hb] at h; cases h
      | true =>
        rw [hb] at h
        simp only [cond_true] at h
        simp only [Bool.and_eq_true] at hb
        obtain ⟨⟨hc, h1⟩, h2⟩ := hb
        have hC := hY.cmp hc
        have l1 := Nat.eq_of_beq_eq_true h1
        have l2 := Nat.eq_of_beq_eq_true h2
        split at h
        · obtain ⟨b, hb, rfl⟩ := Option.map_eq_some_iff.1 h
          obtain ⟨ns, ms, e1, e2, rfl⟩ := veq_ints hb
          obtain ⟨rfl, n1⟩ := agg_ints hx e1
          obtain ⟨rfl, n2⟩ := agg_ints hy e2
          refine ⟨_, ?_, .p _ _ (.bool _), cl_p _ _⟩
          unfold nums
          rw [Sem.run_bind, run_eqGuard_agg w .eql t ox oy _ _ hC.guard]
          simp only [Result.andThen_ok, run_eql_struct]
          have := hC.eq ns ms w (by omega) (by omega)
          unfold nums Op.equal Op.maxDepth at this
          rw [this]
          rfl
        · obtain ⟨b, hb, rfl⟩ := Option.map_eq_some_iff.1 h
          obtain ⟨ns, ms, e1, e2, rfl⟩ := veq_ints hb
          obtain ⟨rfl, n1⟩ := agg_ints hx e1
          obtain ⟨rfl, n2⟩ := agg_ints hy e2
          refine ⟨_, ?_, .p _ _ (.bool _), cl_p _ _⟩
          unfold nums
          rw [Sem.run_bind, run_eqGuard_agg w .neq t ox oy _ _ hC.guard]
          simp only [Result.andThen_ok, run_neq_struct]
          have := hC.eq ns ms w (by omega) (by omega)
          unfold nums Op.equal Op.maxDepth at this
          rw [this]
          rfl
        · cases h
    · cases h
  · cases h

theorem vun_ok {op : UnOp} {x v : VV} {rx : Value} (h : vun op x = some v) (hx : RepV w K H rx x) : ∃ rv, (Op.unary op rx).run P w = .ok rv w ∧ RepV w K H rv v ∧ Cl H.length v := by
  unfold vun at h
  split at h
  · obtain ⟨rv, h1, rfl⟩ := Option.map_eq_some_iff.1 h
    rw [rep_int hx]
    exact ⟨rv, run_pureOf h1, ofValue_ok _, ofValue_cl _ _⟩
  · obtain ⟨rv, h1, rfl⟩ := Option.map_eq_some_iff.1 h
    rw [rep_bool hx]
    exact ⟨rv, run_pureOf h1, ofValue_ok _, ofValue_cl _ _⟩
  · cases h
theorem vconvert_ok (hT : TabOk P T) {s d : Nat} {x v : VV} {rx : Value} (h : vconvert T s d x = some v) (hx : RepV w K H rx x) : ∃ rv, (Go.convert s d rx).run P w = .ok rv w ∧ RepV w K H rv v ∧ Cl H.length v := by
  unfold vconvert at h
  split at h
  · rename_i ys k size zero agg cmp k' n hs hd
    obtain ⟨rv, h1, rfl⟩ := Option.map_eq_some_iff.1 h
    rw [rep_int hx]
    obtain ⟨ds, hds, _⟩ := (hT.ty _ _ hs).agg
    have hdd : P.underlying d = some (.int k) := (hT.ty _ _ hd).d
    refine ⟨rv, ?_, ofValue_ok _, ofValue_cl _ _⟩
    have := run_pureOf (P := P) (w := w) h1
    simp [Go.convert, run_underlying hds, run_underlying hdd, this]
  · cases h
theorem vlen_ok (hT : TabOk P T) (hI : Inv G w K M) {t ty : Nat} {x v : VV} {rx : Value} (h : vlen T t x M = some v) (hx : RepV w K M.H rx x) : ∃ rv, (Builtin.len_ #[t] ty #[rx]).run P w = .ok rv w ∧ RepV w K M.H rv v ∧ Cl M.H.length v := by
  unfold vlen at h
  have sl : ∀ (A : Option Addr) (n c : Nat) (e ke be : Nat), TdOk P t (.slice e ke be) → (Builtin.len_ #[t] ty #[.slice A n c]).run P w = .ok (.int .i64 n) w := fun A n c e ke be hd => by
    simp [Builtin.len_, run_underlying hd.1, goInt]
  split at h
  · rename_i e ke be size zero agg cmp hty
    have hd : TdOk P t (.slice e ke be) := (hT.ty _ _ hty).d
    cases hx with
    | bf id off n k b c A hK hn' hmc hm hA => simp only [Option.some.injEq] at h; subst h; exact ⟨_, sl _ _ _ _ _ _ hd, .p _ _ (.int _ _), cl_p _ _⟩
    | sv A c k b off xs f hcc hm hk hA hi' hw hr h1 => simp only [Option.some.injEq] at h; subst h; exact ⟨_, sl _ _ _ _ _ _ hd, .p _ _ (.int _ _), cl_p _ _⟩
    | sw v0 id0 k xs h0 ht0 =>
      cases h0 with
      | sv A c _ b off _ f hcc hm hk hA hi' hw hr h1 => simp only [Option.some.injEq] at h; subst h; exact ⟨_, sl _ _ _ _ _ _ hd, .p _ _ (.int _ _), cl_p _ _⟩
    | p v0 x0 hP =>
      cases x0 with
      | sl k xs =>
        simp only [elemsOf, Option.map_some, Option.some.injEq] at h
        subst h
        cases hP with
        | sl A c _ b off _ f hc1 hm hk hA hi' hw hr => exact ⟨_, sl _ _ _ _ _ _ hd, .p _ _ (.int _ _), cl_p _ _⟩
      | _ => simp [elemsOf] at h
    | so v0 id k xs hP ht =>
      simp only [elemsOf, Option.map_some, Option.some.injEq] at h
      subst h
      cases hP with
      | sl A c _ b off _ f hc1 hm hk hA hi' hw hr => exact ⟨_, sl _ _ _ _ _ _ hd, .p _ _ (.int _ _), cl_p _ _⟩
    | sf A k xs hP =>
      simp only [elemsOf, Option.map_some, Option.some.injEq] at h
      subst h
      exact ⟨_, sl _ _ _ _ _ _ hd, .p _ _ (.int _ _), cl_p _ _⟩
    | _ => simp [elemsOf] at h
  · rename_i size zero agg cmp hty
    have hd : P.underlying t = some .string := (hT.ty _ _ hty).d
    split at h
    · cases h
      rw [rep_str hx]
      exact ⟨_, by simp [Builtin.len_, run_underlying hd, goInt], .p _ _ (.int _ _), cl_p _ _⟩
    · cases h
  · rename_i kt et size zero agg cmp hty
    have hd : P.underlying t = some (.map kt et) := (hT.ty _ _ hty).d
    split at h
    · cases h
      cases hx with
      | p _ _ h =>
        cases h
        exact ⟨_, by simp [Builtin.len_, run_underlying hd, goInt], .p _ _ (.int _ _), cl_p _ _⟩
    · rename_i id
      split at h
      · rename_i sh es ho
        cases h
        cases hx with
        | mp _ b hK hn =>
          obtain ⟨b', ents, clock, e, h1, h2, _⟩ := hI.obj id _ ho
          rw [hK] at e
          cases e
          have hg : (getObj b).run P w = .ok (.map ents clock) w := MapKept.run_getObj_map h1
          exact ⟨_, by simp [Builtin.len_, run_underlying hd, goInt, hg, h2], .p _ _ (.int _ _), cl_p _ _⟩
      · cases h
    · cases h
  · rename_i n e ke size zero agg cmp hty
    have hd : TdOk P t (.arr n e ke) := (hT.ty _ _ hty).d
    cases h
    exact ⟨_, by simp [Builtin.len_, run_underlying hd.1, goInt], .p _ _ (.int _ _), cl_p _ _⟩
  · cases h

theorem vexts_ok (mx : Bool) : ∀ (ys : List VV) (rys : List Value) (x v : VV) (rx : Value), PW (fun u c => RepV w K H u c) rys ys → RepV w K H rx x → Cl H.length x → vexts mx x ys = some v →
    ∃ rv, (rys.foldlM (fun a b => bif mx then Builtin.max2 a b else Builtin.min2 a b) rx : Sem Value).run P w = .ok rv w ∧ RepV w K H rv v ∧ Cl H.length v
  | [], rys, x, v, rx, hp, hx, hc, h => by
    have : rys = [] := List.eq_nil_of_length_eq_zero (by have := hp.1; simpa using this)
    subst this
    simp only [vexts, Option.some.injEq] at h
    subst h
    exact ⟨rx, by simp, hx, hc⟩
  | y :: ys, [], x, v, rx, hp, hx, hc, h => by have := hp.1; simp at this
  | y :: ys, ry :: rys, x, v, rx, hp, hx, hc, h => by
    simp only [vexts] at h
    cases hz : vext mx x y with
    | none => rw [hz] at h; cases h
    | some z =>
      rw [hz] at h
      simp only at h
      have hy := hp.2 0 ry y rfl rfl
      have hp' : PW (fun u c => RepV w K H u c) rys ys := ⟨by have := hp.1; simpa using this, fun i a b ha hb => hp.2 (i + 1) a b (by simpa using ha) (by simpa using hb)⟩
      unfold vext at hz
      split at hz
      · rename_i k a k' b
        cases hz
        rw [rep_int hx, rep_int hy]
        obtain ⟨rv, h1, h2, h3⟩ := vexts_ok mx ys rys _ v (.int k (bif mx then (bif decide (b > a) then b else a) else (bif decide (b < a) then b else a))) hp' (.p _ _ (.int _ _)) (cl_p _ _) h
        refine ⟨rv, ?_, h2, h3⟩
        rw [List.foldlM_cons, Sem.run_bind]
        cases mx with
        | true =>
          simp only [cond_true, Builtin.max2, Sem.run_pure, Result.andThen_ok] at h1 ⊢
          by_cases hba : b > a <;> simpa [hba] using h1
        | false =>
          simp only [cond_false, Builtin.min2, Sem.run_pure, Result.andThen_ok] at h1 ⊢
          by_cases hba : b < a <;> simpa [hba] using h1
      · cases hz

theorem run_part' {e n : Nat} {y : Ty} (h : TyOk P e y) {cs : Array Value} (hfit : n + y.size ≤ cs.size) : (part e cs n).run P w = .ok (bif y.agg then .agg (cs.extract n (n + y.size)) else cs.getD n undef) w := by
  unfold part
  rw [Sem.run_bind, run_isAgg' h]
  cases ha : y.agg with
  | true => simp [run_size' h]
  | false =>
    have := h.flat ha
    have hl : n < cs.size := by omega
    simp [Array.getElem?_eq_getElem hl]
theorem vindex_ok (hT : TabOk P T) {t : Nat} {x i v : VV} {rx ri : Value} (h : vindex T t x i = some v) (hx : RepV w K H rx x) (hi : RepV w K H ri i) (hc : Cl H.length x) :
    ∃ rv, (Instr.index t rx ri).run P w = .ok rv w ∧ RepV w K H rv v ∧ Cl H.length v := by
  unfold vindex at h
  split at h
  · rename_i size zero agg cmp n hty hn
    obtain ⟨k, j, rfl, h0, rfl⟩ := idx_rep hi hn
    have hd : P.underlying t = some .string := (hT.ty _ _ hty).d
    split at h
    · rename_i s
      split at h
      · rename_i b hb
        cases h
        rw [rep_str hx]
        exact ⟨_, by simp [Instr.index, asIntOf, run_underlying hd, h0, hb], .p _ _ (.int _ _), cl_p _ _⟩
      · cases h
    · cases h
  · rename_i m e ke size zero agg cmp n hty hn
    obtain ⟨k, j, rfl, h0, rfl⟩ := idx_rep hi hn
    have hd : TdOk P t (.arr m e ke) := (hT.ty _ _ hty).d
    obtain ⟨hu, ii, hii, hik⟩ := hd
    split at h
    · rename_i y cs hye
      have hY := hT.ty _ _ hye
      have hke : y.size = ke := by
        obtain ⟨i2, hi2, h3, _⟩ := hY.info
        rw [hii] at hi2
        cases hi2
        omega
      cases hb : Nat.blt j.toNat m with
      | false => rw [hb] at h; cases h
      | true =>
        rw [hb] at h
        simp only [cond_true] at h
        have hlt : j.toNat < m := by simpa [Nat.blt_eq] using hb
        have hlt' : j < (m : Int) := by omega
        cases hx with
        | agg vs _ hs h1 hh =>
          cases hag : y.agg with
          | true =>
            rw [hag] at h
            simp only [cond_true, Option.some.injEq] at h
            subst h
            refine ⟨.agg (vs.extract (j.toNat * ke) (j.toNat * ke + y.size)), ?_, ?_, ?_⟩
            · have hpart : (part e vs (j.toNat * ke)).run P w = .ok (.agg (vs.extract (j.toNat * ke) (j.toNat * ke + y.size))) w := by
                unfold part
                rw [Sem.run_bind, run_isAgg' hY, hag]
                simp [run_size' hY]
              simp [Instr.index, asIntOf, run_underlying hu, h0, hlt', sizeOf, typeInfo, hii, hik, hpart]
            · refine .agg _ _ (by simp; omega) (fun i u hu => ?_) fun i u c hu hcc => ?_
              · rw [Array.getElem?_extract] at hu
                split at hu
                · exact h1 _ u hu
                · cases hu
              · rw [Array.getElem?_extract] at hu
                split at hu
                · rw [List.getElem?_take] at hcc
                  split at hcc
                  · rw [List.getElem?_drop] at hcc
                    exact hh _ u c hu hcc
                  · cases hcc
                · cases hu
            · exact cl_agg.2 fun c hcc => cl_agg.1 hc c (List.mem_of_mem_drop (List.mem_of_mem_take hcc))
          | false =>
            rw [hag] at h
            simp only [cond_false] at h
            have hl := (List.getElem?_eq_some_iff.1 h).1
            have hf := hY.flat hag
            refine ⟨vs.getD (j.toNat * ke) undef, ?_, ?_, cl_agg.1 hc v (List.mem_of_getElem? h)⟩
            · simp only [Instr.index, asIntOf, Sem.run_bind, Sem.run_pure, Result.andThen_ok, run_underlying hu, sizeOf, typeInfo, program, Sem.run, hii, hik, h0, hlt', and_self, if_true]
              rw [run_part' hY (by omega), hag]
              rfl
            · exact hh _ _ v (by simp [Array.getElem?_eq_getElem (show j.toNat * ke < vs.size by omega)]) h
    · cases h
  · cases h
end
end Go.Proofs.Ytmagiabapakhcaa.Vm
