/- A part of the proofs about the chapter of the doors; it states no condition of its own. -/
import Derived.Test.YtmagiabapakhcaaB03
import Derived.ChangeKeysEq
set_option linter.unusedVariables false
set_option linter.unusedSimpArgs false
/- A machine on values: its operations are true, part 1. -/
namespace Go.Proofs.Ytmagiabapakhcaa.Vm
open Go

def Ty.z (y : Ty) : Value := bif y.agg then .agg y.zero.toArray else y.zero.headD undef
def TdOk (P : Program) (t : Nat) : Td → Prop
  | .int k => P.underlying t = some (.int k)
  | .bool => P.underlying t = some .bool
  | .str => P.underlying t = some .string
  | .slice e ke be => P.underlying t = some (.slice e) ∧ ∃ i z, P.info? e = some i ∧ i.size = ke ∧ i.bytes = be ∧ i.zero = some z ∧ z.cells.size = ke ∧ 0 < ke ∧ 0 < be
  | .arr n e ke => P.underlying t = some (.array n e) ∧ ∃ i, P.info? e = some i ∧ i.size = ke
  | .map k e => P.underlying t = some (.map k e)
  | .struct fs => ∃ fields, P.underlying t = some (.struct fields) ∧ fields.size = fs.length ∧ ∀ (j : Nat) (f : Field), fields[j]? = some f → ∃ i, P.info? f.type = some i ∧ fs[j]? = some (f.offset, i.size) ∧ i.size ≠ 0
  | .other => True
def nums (xs : List Int) : Value := .agg (xs.map (Value.int .i64)).toArray
structure CmpOk (P : Program) (t n : Nat) : Prop where
  eq : ∀ (xs ys : List Int) (w : World), xs.length = n → ys.length = n → (Op.equal t (nums xs) (nums ys)).run P w = .ok (decide (xs = ys)) w
  guard : P.eqGuardType P.depth t = false
  key : ∀ (xs : List Int) (e : Bool) (w : World), xs.length = n → (Instr.checkKey e 10000 t (nums xs)).run P w = .ok () w
  und : ∃ d, P.underlying t = some d ∧ (∀ k, d ≠ .int k) ∧ d ≠ .string ∧ d ≠ .bool
structure TyOk (P : Program) (t : Nat) (y : Ty) : Prop where
  info : ∃ i, P.info? t = some i ∧ i.size = y.size ∧ i.zero = some y.z
  zlen : y.zero.length = y.size
  one : ∀ v ∈ y.zero, isOne v = true
  flat : y.agg = false → y.size = 1
  agg : ∃ d, P.underlying t = some d ∧ (y.agg = (match d with | .struct _ => true | .array _ _ => true | _ => false))
  d : TdOk P t y.d
  cmp : y.cmp = true → CmpOk P t y.size
structure TabOk (P : Program) (T : Tab) : Prop where
  ty : ∀ t y, T.ty t = some y → TyOk P t y
  fn : ∀ f fn, T.fn f = some fn → P.funcs[f]? = some fn ∧ (fn.name == "runtime.NumGoroutine") = false ∧ fn.body.isNone = false
  mixed : P.follows .mixedOrders = true

theorem add_none (b off j : Nat) : (⟨b, off, none⟩ : Addr).add j = ⟨b, off + j, none⟩ := by unfold Addr.add; split <;> simp_all

section
variable {P : Program} {T : Tab} {G : Ghost} {w : World} {K : Nat → Option Nat} {M M' : Mem} {H : List VObj}

theorem ofValue_ok (v : Value) : RepV w K H v (ofValue v) := by
  unfold ofValue
  split
  · exact .p _ _ (.int _ _)
  · exact .p _ _ (.bool _)
  · exact .p _ _ (.str _)
  · exact .p _ _ .nilp
  · exact .p _ _ .nilm
  · exact .p _ _ .nilf
  · exact .sf none 0 [] (.sl none 0 0 0 0 [] (fun _ _ => .nilFunc) (by simp) (by simp [maxLen]) (by simp) (by simp) (by simp) (by simp) (by simp))
  · exact .fn _ #[] #[] [] [] rfl rfl (by simp) (by simp)
  · exact .any _
theorem ofValue_refs (v : Value) : refs (ofValue v) = [] := by
  unfold ofValue
  split <;> simp [refs, refsL]
theorem ofValue_cl (n : Nat) (v : Value) : Cl n (ofValue v) := fun r hr => by rw [ofValue_refs] at hr; cases hr

theorem RepP.one {I : Nat → Nat → Prop} {v : Value} {x : PV} (h : RepP w I v x) : isOne v = true := by cases h <;> rfl
theorem RepV.one {v : Value} {x : VV} (h : RepV w K H v x) (hc : isCell x = true) : isOne v = true := by
  cases h with
  | p _ _ h => exact RepP.one h
  | so _ _ _ _ h _ => exact RepP.one h
  | sw _ _ _ _ h _ => cases h; rfl
  | any => cases hc
  | agg => cases hc
  | tup => cases hc
  | _ => rfl
theorem cells_one {v : Value} (h : isOne v = true) : v.cells = #[v] := by cases v <;> first | rfl | cases h
theorem cells_rep {v : Value} {x : VV} (h : RepV w K H v x) (hc : (cellsOf x).all isCell = true) :
    v.cells.size = (cellsOf x).length ∧ ∀ (i : Nat) (u : Value) (c : VV), v.cells[i]? = some u → (cellsOf x)[i]? = some c → RepV w K H u c ∧ isOne u = true := by
  have gen : isCell x = true → cellsOf x = [x] → v.cells.size = (cellsOf x).length ∧ ∀ (i : Nat) (u : Value) (c : VV), v.cells[i]? = some u → (cellsOf x)[i]? = some c → RepV w K H u c ∧ isOne u = true := by
    intro h1 h2
    have ho := h.one h1
    rw [cells_one ho, h2]
    refine ⟨rfl, fun i u c a b => ?_⟩
    cases i with
    | zero => simp at a b; subst a b; exact ⟨h, ho⟩
    | succ i => simp at a
  cases h with
  | agg vs cs hs h1 h => exact ⟨hs, fun i u c a b => ⟨h i u c a b, h1 i u a⟩⟩
  | any v => simp [cellsOf, isCell] at hc
  | tup vs cs hs h => simp [cellsOf, isCell] at hc
  | _ => exact gen rfl rfl
theorem strip1_ok {v : Value} {x : VV} (h : RepV w K H v x) : RepV w K H v (strip1 x) := by
  cases h with
  | so v id k xs h ht => exact .p _ _ h
  | sf A k xs h => exact .p _ _ h
  | p v x h => exact .p v x h
  | any v => exact .any v
  | agg vs cs hs h1 h => exact .agg vs cs hs h1 h
  | tup vs cs hs h => exact .tup vs cs hs h
  | ptr id off b h hn => exact .ptr id off b h hn
  | ip cs b off f hi hw hr => exact .ip cs b off f hi hw hr
  | iv cs b off f hi hw hr h1 => exact .iv cs b off f hi hw hr h1
  | bf id off n k b c A h hn h2 hm hA hz => exact .bf id off n k b c A h hn h2 hm hA hz
  | mp id b h hn => exact .mp id b h hn
  | fn f us vs as bs hs ht h h' => exact .fn f us vs as bs hs ht h h'
  | sv A c k b off xs f hcc hm hk hA hi hw hr h1 => exact .sv A c k b off xs f hcc hm hk hA hi hw hr h1
  | sw v id k xs h ht => exact .sw v id k xs h ht
  | yl id b h hn => exact .yl id b h hn
theorem strip1_cl {n : Nat} {x : VV} (h : Cl n x) : Cl n (strip1 x) := by
  cases x <;> first | exact h | (intro r hr; simp [strip1, refs] at hr)
theorem cl_agg {n : Nat} {cs : List VV} : Cl n (.agg cs) ↔ ∀ c ∈ cs, Cl n c :=
  ⟨fun h c hc r hr => h r (by rw [refs]; exact mem_refsL.2 ⟨c, hc, hr⟩), fun h r hr => by rw [refs] at hr; obtain ⟨c, hc, hr⟩ := mem_refsL.1 hr; exact h c hc r hr⟩
theorem cl_tup {n : Nat} {cs : List VV} : Cl n (.tup cs) ↔ ∀ c ∈ cs, Cl n c :=
  ⟨fun h c hc r hr => h r (by rw [refs]; exact mem_refsL.2 ⟨c, hc, hr⟩), fun h r hr => by rw [refs] at hr; obtain ⟨c, hc, hr⟩ := mem_refsL.1 hr; exact h c hc r hr⟩
theorem cl_p (n : Nat) (x : PV) : Cl n (.p x) := fun r hr => by simp [refs] at hr
theorem cl_cells {n : Nat} {x : VV} (h : Cl n x) : ∀ c ∈ cellsOf x, Cl n c := by
  cases x <;> first | (intro c hc; simp [cellsOf] at hc; subst hc; exact h) | exact cl_agg.1 h

/-- what an operation has come to -/
def OpOk (P : Program) (G : Ghost) (sem : Sem Next) (w : World) (K : Nat → Option Nat) (M : Mem) (v : VV) (M' : Mem) : Prop :=
  ∃ nx rv w' K', sem.run P w = .ok nx w' ∧ (nx = .value rv ∨ (nx = .skip ∧ rv = undef)) ∧ RepV w' K' M'.H rv v ∧ Cl M'.H.length v ∧ Ext w K M.H w' K' M'.H ∧ Inv G w' K' M'
theorem OpOk.same {sem : Sem Next} (hI : Inv G w K M) {v : VV} {rv : Value} (h : sem.run P w = .ok (.value rv) w) (hr : RepV w K M.H rv v) (hc : Cl M.H.length v) : OpOk P G sem w K M v M :=
  ⟨_, rv, w, K, h, .inl rfl, hr, hc, Ext.refl _ _ _, hI⟩

theorem run_isAgg' {t : Nat} {y : Ty} (h : TyOk P t y) : (isAgg t).run P w = .ok y.agg w := by
  obtain ⟨d, hd, ha⟩ := h.agg
  unfold isAgg
  rw [Sem.run_bind, run_underlying hd w]
  cases d <;> simp_all
theorem run_size' {t : Nat} {y : Ty} (h : TyOk P t y) : (sizeOf t).run P w = .ok y.size w := by
  obtain ⟨i, hi, hs, _⟩ := h.info
  simp [sizeOf, typeInfo, hi, hs]
theorem run_zero' {t : Nat} {y : Ty} (h : TyOk P t y) : (zeroValue t).run P w = .ok y.z w := by
  obtain ⟨i, hi, hs, hz⟩ := h.info
  simp [zeroValue, typeInfo, hi, hz]
theorem zero_cells {t : Nat} {y : Ty} (h : TyOk P t y) : y.z.cells = y.zero.toArray := by
  unfold Ty.z
  cases ha : y.agg with
  | true => rfl
  | false =>
    have h1 := h.flat ha
    have h2 := h.zlen
    rw [h1] at h2
    obtain ⟨z, hz⟩ := List.length_eq_one_iff.1 h2
    simp only [cond_false, hz, List.headD_cons]
    exact cells_one (h.one z (by simp [hz]))
theorem zero_rep {t : Nat} {y : Ty} (h : TyOk P t y) : ∀ (i : Nat) (u : Value) (c : VV), y.zero.toArray[i]? = some u → (y.zero.map ofValue)[i]? = some c → RepV w K H u c ∧ isOne u = true := by
  intro i u c a b
  simp only [List.getElem?_toArray] at a
  rw [List.getElem?_map, a] at b
  simp at b
  subst b
  exact ⟨ofValue_ok u, h.one u (List.mem_of_getElem? a)⟩
theorem run_loadAt' {t : Nat} {y : Ty} (h : TyOk P t y) (b off : Nat) (f : Nat → Value) (hc : ∀ j, j < y.size → w.cell? ⟨b, off + j, none⟩ = some (f j)) :
    (Instr.loadAt t (.pointer (some ⟨b, off, none⟩))).run P w = .ok (bif y.agg then .agg ((List.range y.size).map f).toArray else f 0) w := by
  simp only [Instr.loadAt, Instr.sureAddr, Sem.run_bind, Sem.run_pure, Result.andThen_ok, loadVar, run_isAgg' h]
  cases ha : y.agg with
  | true =>
    simp only [if_true, Sem.run_bind, run_size' h, Result.andThen_ok, Sem.run_pure, cond_true]
    rw [run_loadCells w ⟨b, off, none⟩ y.size f (fun j hj => by rw [add_none]; exact hc j hj)]
    simp
  | false =>
    have h0 := hc 0 (by rw [h.flat ha]; omega)
    simp only [Nat.add_zero] at h0
    simp [h0]

theorem load_agg {n : Nat} {f : Nat → Value} {cs : List VV} (hl : cs.length = n) (h : ∀ (j : Nat) (c : VV), cs[j]? = some c → RepV w K H (f j) c ∧ isOne (f j) = true) : RepV w K H (.agg ((List.range n).map f).toArray) (.agg cs) := by
  have hget : ∀ (i : Nat) (v : Value), (((List.range n).map f).toArray)[i]? = some v → i < n ∧ v = f i := by
    intro i v hv
    simp only [List.getElem?_toArray, List.getElem?_map] at hv
    rcases Nat.lt_or_ge i n with hlt | hge
    · rw [List.getElem?_range hlt] at hv
      simp at hv
      exact ⟨hlt, hv.symm⟩
    · rw [List.getElem?_eq_none (by simp; omega)] at hv
      cases hv
  refine .agg _ _ (by simp [hl]) (fun i v hv => ?_) fun i v c hv hcc => ?_
  · obtain ⟨hlt, rfl⟩ := hget i v hv
    exact (h i (cs[i]'(by omega)) (List.getElem?_eq_getElem (by omega))).2
  · obtain ⟨hlt, rfl⟩ := hget i v hv
    exact (h i c hcc).1

theorem vload_ok (hT : TabOk P T) (hI : Inv G w K M) {t : Nat} {a v : VV} {ra : Value} (h : vload T t a M = some v) (ha : RepV w K M.H ra a) (hc : Cl M.H.length a) :
    ∃ rv, (Instr.loadAt t ra).run P w = .ok rv w ∧ RepV w K M.H rv v ∧ Cl M.H.length v := by
  unfold vload at h
  cases hy : T.ty t with
  | none => rw [hy] at h; cases h
  | some y =>
    rw [hy] at h
    have hY := hT.ty t y hy
    simp only at h
    cases ha with
    | ptr id off b hK hn =>
      simp only at h
      cases ho : M.H[id]? with
      | none => rw [ho] at h; cases h
      | some o =>
        rw [ho] at h
        cases o with
        | obj cs =>
          simp only at h
          obtain ⟨vs, tt, hheap, hsz, hcell⟩ := hI.obj id _ ho _ hK
          have hcl := hI.content ho
          have hcell' : ∀ j, j < cs.length → w.cell? ⟨b, j, none⟩ = some (vs.getD j undef) := fun j hj => by
            simp only [World.cell?, hheap]
            simp [Array.getElem?_eq_getElem (show j < vs.size by omega)]
          cases hag : y.agg with
          | true =>
            rw [hag] at h
            simp only [cond_true] at h
            cases hble : Nat.ble (off + y.size) cs.length with
            | false => rw [hble] at h; cases h
            | true =>
              rw [hble] at h
              simp only [cond_true, Option.some.injEq] at h
              subst h
              have hfit : off + y.size ≤ cs.length := Nat.le_of_ble_eq_true hble
              refine ⟨_, run_loadAt' hY b off (fun j => vs.getD (off + j) undef) (fun j hj => hcell' (off + j) (by omega)), ?_, ?_⟩
              · rw [hag]
                refine load_agg (by simp; omega) fun j c hj => ?_
                rw [List.getElem?_map] at hj
                obtain ⟨c0, h0, rfl⟩ := Option.map_eq_some_iff.1 hj
                rw [List.getElem?_take] at h0
                split at h0
                · rw [List.getElem?_drop] at h0
                  have hlt := (List.getElem?_eq_some_iff.1 h0).1
                  have h2 := hcell (off + j) (vs.getD (off + j) undef) c0 (by simp [Array.getElem?_eq_getElem (show off + j < vs.size by omega)]) h0
                  exact ⟨strip1_ok h2.1, h2.2⟩
                · cases h0
              · refine cl_agg.2 fun c hcc => ?_
                obtain ⟨c0, h0, rfl⟩ := List.mem_map.1 hcc
                exact strip1_cl (hcl c0 (List.mem_of_mem_drop (List.mem_of_mem_take h0)))
          | false =>
            rw [hag] at h
            simp only [cond_false] at h
            have hlt := (List.getElem?_eq_some_iff.1 h).1
            refine ⟨_, run_loadAt' hY b off (fun j => vs.getD (off + j) undef) (fun j hj => hcell' (off + j) (by rw [hY.flat hag] at hj; omega)), ?_, hcl v (List.mem_of_getElem? h)⟩
            rw [hag]
            simp only [cond_false, Nat.add_zero]
            exact (hcell off _ v (by simp [Array.getElem?_eq_getElem (show off < vs.size by omega)]) h).1
        | _ => cases h
    | ip cs b off f hi hw hr =>
      simp only at h
      cases hag : y.agg with
      | true =>
        rw [hag] at h
        simp only [cond_true] at h
        cases hble : Nat.ble y.size cs.length with
        | false => rw [hble] at h; cases h
        | true =>
          rw [hble] at h
          simp only [cond_true, Option.some.injEq] at h
          subst h
          have hfit : y.size ≤ cs.length := Nat.le_of_ble_eq_true hble
          refine ⟨_, run_loadAt' hY b off f (fun j hj => hw j _ (List.getElem?_eq_getElem (by omega))), ?_, ?_⟩
          · rw [hag]
            refine load_agg (by simp; omega) fun j c hj => ?_
            rw [List.getElem?_map] at hj
            obtain ⟨c0, h0, rfl⟩ := Option.map_eq_some_iff.1 hj
            rw [List.getElem?_take] at h0
            split at h0
            · exact ⟨.p _ _ (hr j c0 h0), (hr j c0 h0).one⟩
            · cases h0
          · refine cl_agg.2 fun c hcc => ?_
            obtain ⟨c0, h0, rfl⟩ := List.mem_map.1 hcc
            exact cl_p _ _
      | false =>
        rw [hag] at h
        simp only [cond_false] at h
        obtain ⟨c0, h0, rfl⟩ := Option.map_eq_some_iff.1 h
        refine ⟨_, run_loadAt' hY b off f (fun j hj => ?_), ?_, cl_p _ _⟩
        · rw [hY.flat hag] at hj
          obtain rfl : j = 0 := by omega
          exact hw 0 c0 h0
        · rw [hag]
          exact .p _ _ (hr 0 c0 h0)
    | iv cs b off f hi hw hr h1 =>
      simp only at h
      have hcl : ∀ c ∈ cs, Cl M.H.length c := fun c hcc r hr => hc r (by rw [refs]; exact mem_refsL.2 ⟨c, hcc, hr⟩)
      cases hag : y.agg with
      | true =>
        rw [hag] at h
        simp only [cond_true] at h
        cases hble : Nat.ble y.size cs.length with
        | false => rw [hble] at h; cases h
        | true =>
          rw [hble] at h
          simp only [cond_true, Option.some.injEq] at h
          subst h
          have hfit : y.size ≤ cs.length := Nat.le_of_ble_eq_true hble
          refine ⟨_, run_loadAt' hY b off f (fun j hj => hw j _ (List.getElem?_eq_getElem (by omega))), ?_, ?_⟩
          · rw [hag]
            refine load_agg (by simp; omega) fun j c hj => ?_
            rw [List.getElem?_map] at hj
            obtain ⟨c0, h0, rfl⟩ := Option.map_eq_some_iff.1 hj
            rw [List.getElem?_take] at h0
            split at h0
            · exact ⟨strip1_ok (hr j c0 h0), h1 j c0 h0⟩
            · cases h0
          · refine cl_agg.2 fun c hcc => ?_
            obtain ⟨c0, h0, rfl⟩ := List.mem_map.1 hcc
            exact strip1_cl (hcl c0 (List.mem_of_mem_take h0))
      | false =>
        rw [hag] at h
        simp only [cond_false] at h
        refine ⟨_, run_loadAt' hY b off f (fun j hj => ?_), ?_, hcl v (List.mem_of_getElem? h)⟩
        · rw [hY.flat hag] at hj
          obtain rfl : j = 0 := by omega
          exact hw 0 v h
        · rw [hag]
          exact hr 0 v h
    | _ => cases h
end
end Go.Proofs.Ytmagiabapakhcaa.Vm
