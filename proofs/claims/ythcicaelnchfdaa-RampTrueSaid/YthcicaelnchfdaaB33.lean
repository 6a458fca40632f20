/- A part of the proofs about the chapter of the ramps; it states no condition of its own. -/
import Derived.Test.YthcicaelnchfdaaB13
import Derived.Test.YthcicaelnchfdaaRows
import Derived.ChangeSame
import Derived.ChangeSlices
import Derived.JoinedOf
import Derived.JoinedAt
import Derived.RowKit
import Derived.OpenShut
import Derived.Carry
set_option linter.unusedVariables false
set_option linter.unusedSimpArgs false
/- A law that answers true on values holds as its row says. (Vm) -/
namespace Go.Proofs.Ythcicaelnchfdaa.Vm
open Go Go.Proofs Go.ChangeShapes Go.WideShapes Go.ChangeAt Go.RowKit
theorem law_own : ownKnob Try.prog.godebug = none := by kernel_rfl
theorem law_laid : laidOutB Try.prog = true := by kernel_rfl
theorem law_run {f : Nat} {W : World} {args : Array Value} {vs : List VV} (ha : PW (RepV W (fun _ => none) []) args.toList vs) (hc : ∀ a ∈ vs, refs a = []) (hv : VC Try.prog f vs ⟨[], []⟩ (fun r M' => M' = ⟨[], []⟩ ∧ r = vb true)) :
  Calls Try.prog f args W fun e w' => e = .returned (.bool true) ∧ Below W.heap.size W w' := by
 have hI0 : Inv ⟨W.heap.size, W, fun _ => False⟩ W (fun _ => none) ⟨[], []⟩ := ⟨rfl, rfl, rfl, Nat.le_refl _, Nat.le_refl _, fun _ _ _ => rfl, fun i j b hi => by simp at hi, fun i b hi => by simp at hi, fun i o hi => by simp at hi, fun i o hi => by simp at hi, fun e he => by simp at he, fun i L hi => by simp at hi⟩
 refine (callsIn_wide.1 (hv _ W _ args hI0 ⟨ha, fun a h r hr => by rw [hc a h] at hr; cases hr⟩)).mono ?_
 rintro e w' ⟨rv, r, K', M', rfl, ⟨rfl, rfl⟩, hr, hcl, hE, hI'⟩
 refine ⟨?_, hI'.os, hI'.tape, hI'.output, hI'.size, fun b hb => hI'.old b hb (fun h => h)⟩
 cases hr with
 | p _ _ hp => cases hp with
 | bool b => rfl
theorem trodAll_stays {H : Type} {enc : TypeId × Value → H} {W W' : World} (hb : Below W.heap.size W W') {sp : Nat → Bool} : ∀ {ts : List TypeId} {vs : List Value} {ds : List (DataW H)} {ps : List MemPlace}, (∀ t ∈ ts, Try.prog.readableRec t = true ∧ t < Try.prog.types.size) →
  DataW.TrodAll enc Try.prog W 0 (fun _ => true) true ts vs ds ps → (∀ p ∈ ps, p.block < W.heap.size) → (∀ p ∈ ps, sp p.block = true) → DataW.TrodAll enc Try.prog W' 0 sp true ts vs ds ps
 | [], vs, ds, ps, ht, h, hlt, hs => by
  obtain ⟨rfl, rfl, rfl⟩ := trodAll_nil h
  exact trodAll_mk0
 | t :: ts, vs, ds, ps, ht, h, hlt, hs => by
  obtain ⟨v, vs, d, ds, p, q, rfl, rfl, rfl, h0, h1⟩ := trodAll_cons h
  refine trodAll_cons_mk ?_ (trodAll_stays hb (fun u hu => ht u (List.mem_cons_of_mem _ hu)) h1 (fun x hx => hlt x (List.mem_append_right _ hx)) (fun x hx => hs x (List.mem_append_right _ hx)))
  exact WideElems.Trod_stays law_laid (ht t (List.mem_cons_self ..)).1 (ht t (List.mem_cons_self ..)).2 h0 (fun x hx => hb.same (hlt x (List.mem_append_left _ hx))) (fun x hx => hs x (List.mem_append_left _ hx))
set_option maxRecDepth 100000 in
theorem law_after {f : Func} {s : ChangeSpec} {H : Type} {enc : TypeId × Value → H} {W W' : World} {args : Array Value} {v : Value} {ds gs : List (DataW H)} {before pa pv : List MemPlace}
  (hW : DataW.Whole enc Try.prog f.params.toList s.vars false W args.toList ds gs before)
  (hres : ∀ (b : Nat) (sp : Nat → Bool) (hd : Bool), DataW.TrodAll enc Try.prog W' b sp hd f.resultTypes.toList (v.resultList f.resultTypes.size) (s.fn H (ds ++ gs)).results [])
  (hargs : ∀ sp : Nat → Bool, (∀ p ∈ before, sp p.block = true) → DataW.TrodAll enc Try.prog W' 0 sp true f.params.toList args.toList (s.fn H (ds ++ gs)).args pa)
  (hvars : ∀ sp : Nat → Bool, (∀ p ∈ before, sp p.block = true) → DataW.TrodVars enc Try.prog W' sp s.vars (s.fn H (ds ++ gs)).vars pv)
  (hps : before = pa ++ pv) (hb : Below W.heap.size W W')
  (hok : ∀ (j : Nat) (t : TypeId) (r : Value), f.resultTypes[j]? = some t → (v.resultList f.resultTypes.size)[j]? = some r → Value.okWide Try.prog W' .any 0 t r) :
  s.post enc Try.prog f false true false false W args v W' := by
 have hlt : ∀ p ∈ before, p.block < W.heap.size := fun p hp => by simpa using hW.lt p hp
 have hold : ∀ p ∈ before, (fun b => decide (b < W.heap.size)) p.block = true := fun p hp => by simpa using hlt p hp
 refine ⟨ds, gs, before, [], pa, pv, hW, hres _ _ _, hargs _ hold, hvars _ hold, World.keptBut_mono (fun p hp => ⟨hp, ?_⟩) (hb.frame (· ∈ before)), fun _ => ?_⟩
 ·rw [hps, List.mem_append] at hp
  exact Or.inr hp
 ·obtain ⟨_, _, _, _, _, hz, hn⟩ := hW
  refine ⟨hok, _, _, ([] ++ pa) ++ pv, ⟨[] ++ pa, pv, trodAll_append (hargs _ (fun _ _ => rfl)) (hres _ _ _), hvars _ (fun _ _ => rfl), rfl, ?_, ?_⟩, ?_⟩
  ·intro b off hp
   have hp' : MemPlace.cell b off ∈ before := by rw [hps]; simpa using hp
   rw [hb.frozen (p := ⟨b, off, none⟩) (hlt _ hp')]
   exact hz b off hp'
  ·intro ha
   have := hn ha
   rw [hps] at this
   simpa using this
  ·intro p hp _
   rw [hps]
   simpa using hp
set_option maxRecDepth 100000 in
theorem law_post {f : Nat} {fn : Func} {s : ChangeSpec} {H : Type} {enc : TypeId × Value → H} {W : World} {args : Array Value} {ds gs : List (DataW H)} {before : List MemPlace} (hvs : s.vars = [])
  (hs : (s.fn H ds).results = [.lit (.bool true)] ∧ (s.fn H ds).args = ds ∧ (s.fn H ds).vars = []) (hres : fn.resultTypes = #[4]) (hp : ∀ t ∈ fn.params.toList, Try.prog.readableRec t = true ∧ t < Try.prog.types.size)
  (hW : DataW.Whole enc Try.prog fn.params.toList s.vars false W args.toList ds gs before)
  (walk : Calls Try.prog f args W fun e w' => e = .returned (.bool true) ∧ Below W.heap.size W w') :
  Calls Try.prog f args W fun e W' => ∃ v, e = .returned v ∧ s.post enc Try.prog fn false true false false W args v W' := by
 have hW' := hW
 obtain ⟨p, q, hA0, hV, rfl, hfz, hnd⟩ := hW
 have hA : DataW.TrodAll enc Try.prog W 0 (fun _ => true) true fn.params.toList args.toList ds p := hA0
 rw [hvs] at hV
 obtain ⟨rfl, rfl⟩ := trodVars_none hV
 have hlt : ∀ x ∈ p, x.block < W.heap.size := fun x hx => by simpa using hW'.lt x (List.mem_append_left _ hx)
 refine walk.mono fun e W' ⟨he, hb⟩ => ⟨.bool true, he, ?_⟩
 refine law_after (pa := p) (pv := []) hW' ?_ ?_ ?_ rfl hb ?_
 ·intro b sp hd
  rw [List.append_nil, hs.1, hres]
  exact trodAll_cons_mk (shut_bool Try.underlying4 _) trodAll_mk0
 ·intro sp hsp
  rw [List.append_nil, hs.2.1]
  exact trodAll_stays hb hp hA hlt (fun x hx => hsp x (List.mem_append_left _ hx))
 ·intro sp hsp
  rw [List.append_nil, hs.2.2]
  generalize s.vars = vs at hvs
  subst hvs
  rfl
 ·exact ok_one hres rfl (okWide_bool_mk Try.underlying4 _)
/-! ### data that came in, as values -/
inductive ShL : List TypeId → List PV → Prop
 | nil : ShL [] []
 | int (t : TypeId) (k : IntKind) (n : Int) (ts : List TypeId) (xs : List PV) (ht : Try.prog.underlying t = some (.int k)) (hw : (Lit.int k n).wf = true) (h : ShL ts xs) : ShL (t :: ts) (.int k n :: xs)
 | bool (t : TypeId) (b : Bool) (ts : List TypeId) (xs : List PV) (ht : Try.prog.underlying t = some .bool) (h : ShL ts xs) : ShL (t :: ts) (.bool b :: xs)
 | str (t : TypeId) (s : ByteArray) (ts : List TypeId) (xs : List PV) (ht : Try.prog.underlying t = some .string) (hs : s.size ≤ maxLen) (h : ShL ts xs) : ShL (t :: ts) (.str s :: xs)
 | sl (t e : TypeId) (rows : List (List PV)) (ts : List TypeId) (xs : List PV) (ht : Try.prog.underlying t = some (.slice e)) (hl : rows.length ≤ maxLen) (hr : ∀ x ∈ rows, ShL [e] x) (h : ShL ts xs) : ShL (t :: ts) (.sl (Try.prog.cellsOf e) rows :: xs)
 | st (t : TypeId) (fs : Array Field) (ts : List TypeId) (xs : List PV) (ht : Try.prog.underlying t = some (.struct fs)) (h : ShL (fs.toList.map (·.type) ++ ts) xs) : ShL (t :: ts) xs
theorem ShL.append {a b : List TypeId} {xs ys : List PV} (h : ShL a xs) (h' : ShL b ys) : ShL (a ++ b) (xs ++ ys) := by
 induction h with
 | nil => exact h'
 | int t k n ts xs ht hw _ ih => exact .int t k n _ _ ht hw ih
 | bool t b ts xs ht _ ih => exact .bool t b _ _ ht ih
 | str t s ts xs ht hs _ ih => exact .str t s _ _ ht hs ih
 | sl t e rows ts xs ht hl hr _ _ ih => exact .sl t e rows _ _ ht hl hr ih
 | st t fs ts xs ht _ ih => exact .st t fs _ _ ht (by rw [List.append_assoc] at ih; exact ih)
theorem ShL.int_inv {t : TypeId} {k : IntKind} {ts : List TypeId} {xs : List PV} (ht : Try.prog.underlying t = some (.int k)) (h : ShL (t :: ts) xs) : ∃ n ys, xs = .int k n :: ys ∧ (Lit.int k n).wf = true ∧ ShL ts ys := by
 cases h with
 | int _ k' n _ ys ht' hw h => rw [ht] at ht'; cases ht'; exact ⟨n, ys, rfl, hw, h⟩
 | bool _ _ _ _ ht' _ => rw [ht] at ht'; cases ht'
 | str _ _ _ _ ht' _ _ => rw [ht] at ht'; cases ht'
 | sl _ _ _ _ _ ht' _ _ _ => rw [ht] at ht'; cases ht'
 | st _ _ _ _ ht' _ => rw [ht] at ht'; cases ht'
theorem ShL.sl_inv {t e : TypeId} {ts : List TypeId} {xs : List PV} (ht : Try.prog.underlying t = some (.slice e)) (h : ShL (t :: ts) xs) : ∃ rows ys, xs = .sl (Try.prog.cellsOf e) rows :: ys ∧ rows.length ≤ maxLen ∧ (∀ x ∈ rows, ShL [e] x) ∧ ShL ts ys := by
 cases h with
 | sl _ _ rows _ ys ht' hl hr h => rw [ht] at ht'; cases ht'; exact ⟨rows, ys, rfl, hl, hr, h⟩
 | int _ _ _ _ _ ht' _ _ => rw [ht] at ht'; cases ht'
 | bool _ _ _ _ ht' _ => rw [ht] at ht'; cases ht'
 | str _ _ _ _ ht' _ _ => rw [ht] at ht'; cases ht'
 | st _ _ _ _ ht' _ => rw [ht] at ht'; cases ht'
theorem ShL.nil_inv {xs : List PV} (h : ShL [] xs) : xs = [] := by cases h; rfl
theorem rows_inv {α : Type} {p : α → Prop} {f : α → List PV} {e : TypeId} (h : ∀ x, ShL [e] x → ∃ y, x = f y ∧ p y) : ∀ {rows : List (List PV)}, (∀ x ∈ rows, ShL [e] x) → ∃ ys : List α, rows = ys.map f ∧ ∀ y ∈ ys, p y
 | [], _ => ⟨[], rfl, fun y hy => by cases hy⟩
 | x :: rows, hr => by
  obtain ⟨y, rfl, hy⟩ := h x (hr x (List.mem_cons_self ..))
  obtain ⟨ys, rfl, hys⟩ := rows_inv h (fun z hz => hr z (List.mem_cons_of_mem _ hz))
  exact ⟨y :: ys, rfl, fun z hz => by
   rcases List.mem_cons.1 hz with rfl | hz
   ·exact hy
   ·exact hys z hz⟩
def tile (P : Program) : Nat → List Field → Option Nat
 | n, [] => some n
 | n, f :: fs => if f.offset = n then tile P (n + P.cellsOf f.type) fs else none
def okT (P : Program) : Nat → TypeId → Bool
 | 0, _ => false
 | m + 1, t => match P.underlying t with
  | some (.int _) => true
  | some .bool => true
  | some .string => true
  | some (.slice e) => okT P m e && Nat.blt 0 (P.cellsOf e)
  | some (.struct fs) => fs.toList.all (fun f => okT P m f.type) && decide (tile P 0 fs.toList = some (P.cellsOf t))
  | _ => false
def RepC (W : World) (cs : List Value) (xs : List PV) : Prop := xs.length = cs.length ∧ ∀ (i : Nat) v u, cs[i]? = some v → xs[i]? = some u → RepP W (Im (fun _ => none) []) v u
theorem RepC.one {W : World} {v : Value} {u : PV} (h : RepP W (Im (fun _ => none) []) v u) : RepC W [v] [u] := ⟨rfl, fun i v' u' h1 h2 => by
 match i, h1, h2 with
 | 0, h1, h2 => cases h1; cases h2; exact h
 | i + 1, h1, _ => simp at h1⟩
theorem RepC.append {W : World} {cs cs' : List Value} {xs xs' : List PV} (h : RepC W cs xs) (h' : RepC W cs' xs') : RepC W (cs ++ cs') (xs ++ xs') := ⟨by simp [h.1, h'.1], fun i v u h1 h2 => by
 rcases Nat.lt_or_ge i cs.length with hlt | hge
 ·rw [List.getElem?_append_left hlt] at h1
  rw [List.getElem?_append_left (by rw [h.1]; exact hlt)] at h2
  exact h.2 i v u h1 h2
 ·rw [List.getElem?_append_right hge] at h1
  rw [List.getElem?_append_right (by rw [h.1]; exact hge), h.1] at h2
  exact h'.2 _ v u h1 h2⟩
theorem add_spot {w : World} {a : Addr} {v : Value} (h : w.cell? (a.add 0) = some v) : a = ⟨a.block, a.off, none⟩ := by
 unfold World.cell? at h
 split at h
 ·split at h
  ·cases h
  ·rename_i hsp
   cases a with
   | mk b o s => cases s with
    | none => rfl
    | some q => simp [Addr.add] at hsp
 ·cases h
theorem add_plain' (b o i : Nat) : Addr.add ⟨b, o, none⟩ i = ⟨b, o + i, none⟩ := by
 unfold Addr.add
 split
 ·rename_i h; subst h; rfl
 ·rfl
section
variable {H : Type} {enc : TypeId × Value → H} {W : World}
theorem read_fields {m n : Nat} {cs : List Value} (ih : ∀ (t : TypeId) (cs' : List Value) (x : DataW H × List MemPlace), okT Try.prog m t = true → DataW.trod enc Try.prog W 0 (fun _ => true) true n t cs' = some x → ∃ xs, ShL [t] xs ∧ RepC W cs' xs) :
  ∀ (l : List Field) (k : Nat), tile Try.prog k l = some cs.length → (∀ f ∈ l, okT Try.prog m f.type = true) → (∀ f ∈ l, ∃ x, DataW.trod enc Try.prog W 0 (fun _ => true) true n f.type ((cs.drop f.offset).take (Try.prog.cellsOf f.type)) = some x) → ∃ xs, ShL (l.map (·.type)) xs ∧ RepC W (cs.drop k) xs
 | [], k, ht, _, _ => by
  cases ht
  exact ⟨[], .nil, by simp [RepC]⟩
 | f :: l, k, ht, hok, hx => by
  unfold tile at ht
  split at ht
  ·rename_i hf
   obtain ⟨xs, h1, h2⟩ := read_fields ih l _ ht (fun g hg => hok g (List.mem_cons_of_mem _ hg)) (fun g hg => hx g (List.mem_cons_of_mem _ hg))
   obtain ⟨x, hx0⟩ := hx f (List.mem_cons_self ..)
   rw [hf] at hx0
   obtain ⟨ys, h3, h4⟩ := ih _ _ _ (hok f (List.mem_cons_self ..)) hx0
   refine ⟨ys ++ xs, h3.append h1, ?_⟩
   have := h4.append h2
   rw [show (cs.drop k).take (Try.prog.cellsOf f.type) ++ cs.drop (k + Try.prog.cellsOf f.type) = cs.drop k by
    rw [← List.drop_drop]; exact List.take_append_drop _ _] at this
   exact this
  ·cases ht
theorem choose_rows {α : Type} {p : Nat → α → Prop} : ∀ (n : Nat), (∀ i, i < n → ∃ x, p i x) → ∃ xs : List α, xs.length = n ∧ ∀ i x, xs[i]? = some x → p i x
 | 0, _ => ⟨[], rfl, fun i x h => by simp at h⟩
 | n + 1, h => by
  obtain ⟨xs, h1, h2⟩ := choose_rows n (fun i hi => h i (by omega))
  obtain ⟨x, hx⟩ := h n (by omega)
  refine ⟨xs ++ [x], by simp [h1], fun i y hy => ?_⟩
  rcases Nat.lt_or_ge i xs.length with hlt | hge
  ·rw [List.getElem?_append_left hlt] at hy
   exact h2 i y hy
  ·rw [List.getElem?_append_right hge] at hy
   have : i - xs.length = 0 := by
    have := (List.getElem?_eq_some_iff.1 hy).1
    simp at this; omega
   rw [this] at hy
   cases hy
   rwa [show i = n by omega]
theorem read_ok : ∀ (m : Nat) (n : Nat) (t : TypeId) (cs : List Value) (x : DataW H × List MemPlace), okT Try.prog m t = true → DataW.trod enc Try.prog W 0 (fun _ => true) true n t cs = some x → ∃ xs, ShL [t] xs ∧ RepC W cs xs := by
 intro m
 induction m with
 | zero =>
  intro n t cs x hok
  unfold okT at hok
  exact absurd hok Bool.false_ne_true
 | succ m ih =>
  intro n t cs x hok h
  unfold okT at hok
  split at hok
  ·rename_i k ht
   obtain ⟨i, rfl, _, hw⟩ := DataW.trod_int ht h
   exact ⟨_, .int t k i [] [] ht hw .nil, .one (.int _ _)⟩
  ·rename_i ht
   obtain ⟨b, rfl, _⟩ := DataW.trod_bool ht h
   exact ⟨_, .bool t b [] [] ht .nil, .one (.bool _)⟩
  ·rename_i ht
   obtain ⟨s, rfl, _, hs⟩ := DataW.trod_string ht h
   exact ⟨_, .str t s [] [] ht hs .nil, .one (.str _)⟩
  ·rename_i e ht
   rw [Bool.and_eq_true] at hok
   have hpos : 0 < Try.prog.cellsOf e := by
    have h0 := hok.2
    rw [nat_blt, decide_eq_true_eq] at h0
    exact h0
   rcases DataW.trod_slice ht h with ⟨rfl, _⟩ | ⟨a, len, cap, elems, rest, n', rfl, rfl, _, _, hl, hm, hlen, hel, _, _⟩
   ·exact ⟨_, .sl t e [] [] [] ht (Nat.zero_le _) (fun x hx => by cases hx) .nil, .one (.sl none 0 _ 0 0 [] (fun _ _ => .bool false) (Nat.le_refl _) (Nat.zero_le _) (fun x hx => by cases hx) (fun h => absurd rfl h) (fun i x j u hx => by simp at hx) (fun i x j u hx => by simp at hx) (fun i x j u hx => by simp at hx))⟩
   ·have each : ∀ i, i < len → ∃ p : List Value × List PV, W.cells? 0 (a.add (i * Try.prog.cellsOf e)) (Try.prog.cellsOf e) = some p.1 ∧ ShL [e] p.2 ∧ RepC W p.1 p.2 := by
     intro i hi
     have h1 := hel i hi
     rw [List.getElem?_eq_getElem (by omega)] at h1
     obtain ⟨cs', hc, hx⟩ := Option.bind_eq_some_iff.1 h1
     obtain ⟨xs, hs, hr⟩ := ih _ _ _ _ hok.1 hx
     exact ⟨(cs', xs), hc, hs, hr⟩
    obtain ⟨ps, hps, hp⟩ := choose_rows len each
    have hlen' : (ps.map Prod.snd).length = len := by rw [List.length_map, hps]
    have hat : ∀ (i : Nat) (x : List PV), (ps.map Prod.snd)[i]? = some x → ∃ cs', W.cells? 0 (a.add (i * Try.prog.cellsOf e)) (Try.prog.cellsOf e) = some cs' ∧ ShL [e] x ∧ RepC W cs' x := by
     intro i x hx
     rw [List.getElem?_map] at hx
     obtain ⟨p, hp', rfl⟩ := Option.map_eq_some_iff.1 hx
     exact ⟨p.1, hp i p hp'⟩
    refine ⟨_, .sl t e (ps.map Prod.snd) [] [] ht (by omega) (fun x hx => by
     obtain ⟨i, hi⟩ := List.getElem?_of_mem hx
     obtain ⟨_, _, h2, _⟩ := hat i x hi
     exact h2) .nil, .one ?_⟩
    have ha : ∀ (i : Nat) (x : List PV), (ps.map Prod.snd)[i]? = some x → a = ⟨a.block, a.off, none⟩ := by
     intro i x hx
     have h0 : 0 < len := by
      have := (List.getElem?_eq_some_iff.1 hx).1
      omega
     obtain ⟨cs', hc, _⟩ := each 0 h0
     obtain ⟨_, hcl, hcc⟩ := World.cells?_some hc
     have h9 := hcc 0 hpos
     rw [List.getElem?_eq_getElem (by omega), Nat.zero_mul] at h9
     exact add_spot (a := a) (by
      have : (a.add 0).add 0 = a.add 0 := by simp [Addr.add]
      rw [this] at h9
      exact h9)
    have hcells : ∀ (i : Nat) (x : List PV) (j : Nat) (u : PV), (ps.map Prod.snd)[i]? = some x → x[j]? = some u → ∃ v, W.cell? ⟨a.block, a.off + i * Try.prog.cellsOf e + j, none⟩ = some v ∧ RepP W (Im (fun _ => none) []) v u := by
     intro i x j u hx hu
     obtain ⟨cs', hc, _, hr⟩ := hat i x hx
     obtain ⟨_, hcl, hcc⟩ := World.cells?_some hc
     have hj : j < cs'.length := by rw [← hr.1]; exact (List.getElem?_eq_some_iff.1 hu).1
     have h9 := hcc j (by omega)
     rw [List.getElem?_eq_getElem hj] at h9
     refine ⟨cs'[j], ?_, hr.2 j _ u (List.getElem?_eq_getElem hj) hu⟩
     have ea := ha i x hx
     rw [ea, add_plain', add_plain'] at h9
     exact h9
    have hg : RepP W (Im (fun _ => none) []) (.slice (some a) (ps.map Prod.snd).length cap) (.sl (Try.prog.cellsOf e) (ps.map Prod.snd)) := by
     refine .sl (some a) cap (Try.prog.cellsOf e) a.block a.off (ps.map Prod.snd) (fun i j => (W.cell? ⟨a.block, a.off + i * Try.prog.cellsOf e + j, none⟩).getD (.bool false)) (by omega) hm (fun x hx => ?_) (fun hne => ?_) (fun i x j u hx hu i' ob hi => by simp at hi) (fun i x j u hx hu => ?_) (fun i x j u hx hu => ?_)
     ·obtain ⟨i, hi⟩ := List.getElem?_of_mem hx
      obtain ⟨cs', hc, _, hr⟩ := hat i x hi
      obtain ⟨_, hcl, _⟩ := World.cells?_some hc
      rw [hr.1, hcl]
     ·obtain ⟨x, xs, he⟩ := List.exists_cons_of_ne_nil hne
      exact congrArg some (ha 0 x (by rw [he]; rfl))
     ·obtain ⟨v, hv, _⟩ := hcells i x j u hx hu
      rw [hv]; rfl
     ·obtain ⟨v, hv, hr⟩ := hcells i x j u hx hu
      rw [hv]; exact hr
    rw [hlen'] at hg
    exact hg
  ·rename_i fs ht
   rw [Bool.and_eq_true, List.all_eq_true, decide_eq_true_eq] at hok
   obtain ⟨xs, n', rfl, _, hcl, hxl, hx⟩ := DataW.trod_struct ht h
   obtain ⟨ys, h1, h2⟩ := read_fields (n := n') (cs := cs) (fun t cs' x => ih n' t cs' x) fs.toList 0 (by rw [hcl]; exact hok.2) hok.1 (fun f hf => by
    obtain ⟨i, hi⟩ := List.getElem?_of_mem hf
    have hi' : fs[i]? = some f := by simpa using hi
    have := hx i f hi'
    have hlt : i < fs.size := (Array.getElem?_eq_some_iff.1 hi').1
    rw [List.getElem?_eq_getElem (by omega)] at this
    exact ⟨_, this⟩)
   refine ⟨ys, .st t fs [] ys ht (by simpa using h1), ?_⟩
   simpa using h2
  ·exact absurd hok Bool.false_ne_true
theorem arg_cell {m : Nat} {t : TypeId} {v : Value} {d : DataW H} {ps : List MemPlace} (hok : okT Try.prog m t = true) (hv : v.cells = #[v]) (h : DataW.Trod enc Try.prog W 0 (fun _ => true) true t v d ps) :
  ∃ u, ShL [t] [u] ∧ RepV W (fun _ => none) [] v (.p u) := by
 obtain ⟨n, hn⟩ := h
 obtain ⟨xs, h1, h2⟩ := read_ok m n t _ _ hok hn
 rw [hv] at h2
 match xs, h2.1 with
 | [u], _ => exact ⟨u, h1, .p _ _ (h2.2 0 v u rfl rfl)⟩
set_option maxRecDepth 100000 in
theorem arg_slice {b0 : Nat} {m : Nat} {t e : TypeId} {v : Value} {d : DataW H} {ps : List MemPlace} (ht : Try.prog.underlying t = some (.slice e)) (hok : okT Try.prog m t = true) (hv : Value.okWide Try.prog W .any b0 t v) (h : DataW.Trod enc Try.prog W 0 (fun _ => true) true t v d ps) :
  ∃ u, ShL [t] [u] ∧ RepV W (fun _ => none) [] v (.p u) := by
 obtain ⟨a, l, c, rfl⟩ := okWide_slice ht hv
 exact arg_cell hok rfl h
end
end Go.Proofs.Ythcicaelnchfdaa.Vm

/- Laws of numbers. (Vm) -/
namespace Go.Proofs.Ythcicaelnchfdaa.Vm
open Go Go.Proofs Go.ChangeShapes Go.WideShapes Go.ChangeAt Go.RowKit
theorem cells_int : Try.prog.cellsOf 3 = 1 := by kernel_rfl
theorem ok_ints : okT Try.prog 2 26 = true := by kernel_rfl
end Go.Proofs.Ythcicaelnchfdaa.Vm

/- Laws of yards, slots and numbers: what comes in, as values. (Vm) -/
namespace Go.Proofs.Ythcicaelnchfdaa.Vm
open Go Go.Proofs Go.ChangeShapes Go.WideShapes Go.ChangeAt Go.RowKit
theorem sh_int {xs : List PV} {ts : List TypeId} (h : ShL (3 :: ts) xs) : ∃ n ys, xs = .int .i64 n :: ys ∧ (Lit.int .i64 n).wf = true ∧ ShL ts ys := by
 obtain ⟨n, ys, rfl, hw, h1⟩ := h.int_inv Try.underlying3
 exact ⟨n, ys, rfl, hw, h1⟩
theorem sh_ints' {xs : List PV} {ts : List TypeId} (h : ShL (26 :: ts) xs) : ∃ (l : List Int) (ys : List PV), xs = .sl 1 (l.map intP) :: ys ∧ l.length ≤ maxLen ∧ ShL ts ys := by
 obtain ⟨rows, ys, he, hl, hr, h1⟩ := h.sl_inv Try.underlying26
 obtain ⟨xs, rfl, _⟩ := rows_inv (f := intP) (p := fun _ => True) (fun x hx => by
  obtain ⟨n, ys, rfl, _, h⟩ := sh_int hx
  obtain rfl := h.nil_inv
  exact ⟨n, rfl, trivial⟩) hr
 rw [cells_int] at he
 exact ⟨xs, ys, he, by simpa using hl, h1⟩
def Rd (t : TypeId) (p : VV → Prop) : Prop := (Try.prog.readableRec t = true ∧ t < Try.prog.types.size) ∧ ∀ (H : Type) (enc : TypeId × Value → H) (W : World) (b0 : Nat) (v : Value) (d : DataW H) (ps : List MemPlace), Value.okWide Try.prog W .any b0 t v → DataW.Trod enc Try.prog W 0 (fun _ => true) true t v d ps → ∃ u, p u ∧ RepV W (fun _ => none) [] v u ∧ refs u = []
set_option maxRecDepth 100000 in
theorem rd_ints : Rd 26 (fun u => ∃ l : List Int, u = intsV l ∧ l.length ≤ maxLen) := by
 refine ⟨⟨by kernel_rfl, of_decide_eq_true (by kernel_rfl)⟩, fun H enc W b0 v d ps hv h => ?_⟩
 obtain ⟨u, h1, h2⟩ := arg_slice Try.underlying26 ok_ints hv h
 obtain ⟨l, ys, he, hl, h3⟩ := sh_ints' h1
 cases he
 exact ⟨_, ⟨l, rfl, hl⟩, h2, rfl⟩
inductive Rds : List TypeId → List (VV → Prop) → Prop
 | nil : Rds [] []
 | cons {t : TypeId} {p : VV → Prop} {ts : List TypeId} {ps : List (VV → Prop)} (h : Rd t p) (r : Rds ts ps) : Rds (t :: ts) (p :: ps)
inductive Sat : List (VV → Prop) → List VV → Prop
 | nil : Sat [] []
 | cons {p : VV → Prop} {ps : List (VV → Prop)} {u : VV} {us : List VV} (h : p u) (r : Sat ps us) : Sat (p :: ps) (u :: us)
theorem Sat.inv {p : VV → Prop} {ps : List (VV → Prop)} {us : List VV} (h : Sat (p :: ps) us) : ∃ u vs, us = u :: vs ∧ p u ∧ Sat ps vs := by
 cases h with
 | cons h r => exact ⟨_, _, rfl, h, r⟩
theorem Sat.inv0 {us : List VV} (h : Sat [] us) : us = [] := by cases h; rfl
theorem pw_cons {α β : Type} {R : α → β → Prop} {a : α} {b : β} {xs : List α} {ys : List β} (h : R a b) (r : PW R xs ys) : PW R (a :: xs) (b :: ys) := ⟨by simp [r.1], fun i x y h1 h2 => by
 match i, h1, h2 with
 | 0, h1, h2 => cases h1; cases h2; exact h
 | i + 1, h1, h2 => exact r.2 i x y h1 h2⟩
set_option maxRecDepth 100000 in
theorem Rds.read {H : Type} {enc : TypeId × Value → H} {W : World} {b0 : Nat} : ∀ {ts : List TypeId} {pr : List (VV → Prop)}, Rds ts pr → ∀ {args : List Value} {ds : List (DataW H)} {ps : List MemPlace}, DataW.TrodAll enc Try.prog W 0 (fun _ => true) true ts args ds ps → (∀ (j : Nat) t v, ts[j]? = some t → args[j]? = some v → Value.okWide Try.prog W .any b0 t v) → ∃ us, Sat pr us ∧ PW (RepV W (fun _ => none) []) args us ∧ (∀ a ∈ us, refs a = []) ∧ ds.length = ts.length := by
 intro ts pr R
 induction R with
 | nil =>
  intro args ds ps h _
  obtain ⟨rfl, rfl, rfl⟩ := trodAll_nil h
  exact ⟨[], .nil, ⟨rfl, fun i a b h => by simp at h⟩, by simp, rfl⟩
 | cons h r ih =>
  intro args ds ps hA hv
  obtain ⟨v0, vs0, d0, ds0, p0, q0, rfl, rfl, rfl, h0, r0⟩ := trodAll_cons hA
  obtain ⟨us, s1, s2, s3, s4⟩ := ih r0 fun j t v h1 h2 => hv (j + 1) t v (by simpa using h1) (by simpa using h2)
  obtain ⟨u, t1, t2, t3⟩ := h.2 H enc W b0 v0 d0 p0 (hv 0 _ _ rfl rfl) h0
  refine ⟨u :: us, .cons t1 s1, pw_cons t2 s2, fun a ha => ?_, by simp [s4]⟩
  rcases List.mem_cons.1 ha with rfl | ha
  ·exact t3
  ·exact s3 a ha
theorem Rds.types {ts : List TypeId} {pr : List (VV → Prop)} (R : Rds ts pr) : ∀ t ∈ ts, Try.prog.readableRec t = true ∧ t < Try.prog.types.size := by
 induction R with
 | nil => simp
 | cons h r ih =>
  intro t ht
  rcases List.mem_cons.1 ht with rfl | ht
  ·exact h.1
  ·exact ih t ht
set_option maxRecDepth 100000 in
theorem law_contract {f : Nat} {fn : Func} {s : ChangeSpec} {H : Type} {enc : TypeId × Value → H} {W : World} {args : Array Value} {ds gs : List (DataW H)} {before : List MemPlace} {b0 : Nat} {pr : List (VV → Prop)} (R : Rds fn.params.toList pr) (hvs : s.vars = [])
  (hs : ∀ ds : List (DataW H), ds.length = fn.params.toList.length → (s.fn H ds).results = [.lit (.bool true)] ∧ (s.fn H ds).args = ds ∧ (s.fn H ds).vars = []) (hres : fn.resultTypes = #[4])
  (hv : ∀ us, Sat pr us → VC Try.prog f us ⟨[], []⟩ (fun r M' => M' = ⟨[], []⟩ ∧ r = vb true))
  (hval : ∀ (j : Nat) t v, fn.params[j]? = some t → args[j]? = some v → Value.okWide Try.prog W .any b0 t v)
  (hW : DataW.Whole enc Try.prog fn.params.toList s.vars false W args.toList ds gs before) :
  Calls Try.prog f args W fun e W' => ∃ v, e = .returned v ∧ s.post enc Try.prog fn false true false false W args v W' := by
 have hW' := hW
 obtain ⟨p, q, hA0, hV, rfl, hfz, hnd⟩ := hW
 have hA : DataW.TrodAll enc Try.prog W 0 (fun _ => true) true fn.params.toList args.toList ds p := hA0
 obtain ⟨us, s1, s2, s3, s4⟩ := R.read hA fun j t v h1 h2 => hval j t v (by simpa using h1) (by simpa using h2)
 exact law_post hvs (hs ds s4) hres R.types hW' (law_run s2 s3 (hv us s1))
end Go.Proofs.Ythcicaelnchfdaa.Vm
