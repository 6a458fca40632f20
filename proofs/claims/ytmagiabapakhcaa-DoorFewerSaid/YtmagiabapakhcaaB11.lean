/- A part of the proofs about the chapter of the doors; it states no condition of its own. -/
import Derived.Test.YtmagiabapakhcaaB10
import Derived.MapKept
set_option linter.unusedVariables false
set_option linter.unusedSimpArgs false
/- A machine on values: its operations are true, part 8: maps; and all of them together. -/
namespace Go.Proofs.Ytmagiabapakhcaa.Vm
open Go
section
variable {P : Program} {T : Tab} {G : Ghost} {w : World} {K : Nat → Option Nat} {M M' : Mem} {H : List VObj}

def aidx (ks : List Int) : List (List Int × VV) → Option Nat
  | [] => none
  | (k, _) :: r => bif decide (k = ks) then some 0 else (aidx ks r).map (· + 1)
theorem PW.of_arr' {w : World} {K : Nat → Option Nat} {H : List VObj} {sh : KSh} {ents : Array MapEntry} {es : List (List Int × VV)} (h2 : ents.size = es.length)
    (h3 : ∀ (i : Nat) (e : MapEntry) (ks : List Int) (v : VV), ents[i]? = some e → es[i]? = some (ks, v) → e.key = keyVal sh ks ∧ ks.length = sh.len ∧ RepV w K H e.val v) :
    PW (fun (e : MapEntry) (p : List Int × VV) => e.key = keyVal sh p.1 ∧ p.1.length = sh.len ∧ RepV w K H e.val p.2) ents.toList es :=
  ⟨by simpa using h2, fun i a b ha hb => h3 i a b.1 b.2 (by simpa using ha) hb⟩
theorem assoc_aidx (ks : List Int) : ∀ es : List (List Int × VV), assoc ks es = (aidx ks es).bind fun j => (es[j]?).map (·.2)
  | [] => rfl
  | (k, v) :: r => by
    simp only [assoc, aidx]
    by_cases h : k = ks
    · simp [h]
    · simp only [h, decide_false, cond_false]
      rw [assoc_aidx ks r]
      cases aidx ks r <;> simp
theorem assocSet_aidx (ks : List Int) (v : VV) : ∀ es : List (List Int × VV), assocSet ks v es = match aidx ks es with
    | some j => es.set j (ks, v)
    | none => es ++ [(ks, v)]
  | [] => rfl
  | (k, u) :: r => by
    simp only [assocSet, aidx]
    by_cases h : k = ks
    · simp [h]
    · simp only [h, decide_false, cond_false]
      rw [assocSet_aidx ks v r]
      cases aidx ks r <;> simp
theorem aidx_spec {ks : List Int} : ∀ {es : List (List Int × VV)} {j : Nat}, aidx ks es = some j → ∃ u, es[j]? = some (ks, u)
  | [], j, h => by simp [aidx] at h
  | (k, u) :: r, j, h => by
    simp only [aidx] at h
    by_cases hk : k = ks
    · simp [hk] at h
      subst h
      exact ⟨u, by simp [hk]⟩
    · simp only [hk, decide_false, cond_false] at h
      obtain ⟨j', h1, rfl⟩ := Option.map_eq_some_iff.1 h
      simpa using aidx_spec h1

/-- entries, as they lie and as they read -/
def Ents (w : World) (K : Nat → Option Nat) (H : List VObj) (sh : KSh) (l : List MapEntry) (es : List (List Int × VV)) : Prop :=
  PW (fun (e : MapEntry) (p : List Int × VV) => e.key = keyVal sh p.1 ∧ p.1.length = sh.len ∧ RepV w K H e.val p.2) l es
theorem Ents.tail {sh : KSh} {e : MapEntry} {l : List MapEntry} {p : List Int × VV} {es : List (List Int × VV)} (h : Ents w K H sh (e :: l) (p :: es)) : Ents w K H sh l es :=
  ⟨by have := h.1; simpa using this, fun i a b ha hb => h.2 (i + 1) a b (by simpa using ha) (by simpa using hb)⟩
theorem Ents.head {sh : KSh} {e : MapEntry} {l : List MapEntry} {p : List Int × VV} {es : List (List Int × VV)} (h : Ents w K H sh (e :: l) (p :: es)) : e.key = keyVal sh p.1 ∧ p.1.length = sh.len ∧ RepV w K H e.val p.2 := h.2 0 e p rfl rfl

theorem find_int {q : IntKind} {n : Int} : ∀ (l : List MapEntry) (es : List (List Int × VV)) (i : Nat), Ents w K H (.int q) l es →
    Instr.findNow (.int q) (.int q n) l i = some ((aidx [n] es).bind fun j => (l[j]?).map fun e => (i + j, e.val))
  | [], es, i, h => by
    have : es = [] := List.eq_nil_of_length_eq_zero (by have := h.1; simpa using this.symm)
    subst this
    rfl
  | e :: l, [], i, h => by have := h.1; simp at this
  | e :: l, (k, v) :: es, i, h => by
    obtain ⟨h1, h2, _⟩ := h.head
    obtain ⟨m, rfl⟩ : ∃ m, k = [m] := List.length_eq_one_iff.1 h2
    have ih := find_int (n := n) l es (i + 1) h.tail
    simp only [keyVal] at h1
    simp only [Instr.findNow, h1, Instr.sameNow, if_true, aidx]
    by_cases hm : n = m
    · subst hm
      simp
    · have hm' : (n == m) = false := by simpa using hm
      have hm2 : decide ([m] = [n]) = false := by simp; omega
      rw [hm', hm2, ih]
      cases aidx [n] es with
      | none => simp
      | some j => simp [Nat.add_assoc, Nat.add_comm 1 j]
theorem find_ask {kt n : Nat} (hC : CmpOk P kt n) {ks : List Int} (hn : ks.length = n) : ∀ (l : List MapEntry) (es : List (List Int × VV)) (i : Nat), Ents w K H (.nums n) l es →
    (Instr.findAsking kt (nums ks) l i).run P w = .ok ((aidx ks es).bind fun j => (l[j]?).map fun e => (i + j, e.val)) w
  | [], es, i, h => by
    have : es = [] := List.eq_nil_of_length_eq_zero (by have := h.1; simpa using this.symm)
    subst this
    rfl
  | e :: l, [], i, h => by have := h.1; simp at this
  | e :: l, (k, v) :: es, i, h => by
    obtain ⟨h1, h2, _⟩ := h.head
    have ih := find_ask hC hn l es (i + 1) h.tail
    have hkey : e.key = nums k := by rw [h1]; rfl
    have heq := hC.eq ks k w hn h2
    simp only [Instr.findAsking, Sem.run_bind, hkey, heq, Result.andThen_ok, aidx]
    by_cases hm : ks = k
    · subst hm
      simp
    · have hm2 : decide (k = ks) = false := by simp; exact fun h => hm h.symm
      simp only [hm, decide_false, Bool.false_eq_true, if_false, hm2, cond_false, ih]
      cases aidx ks es with
      | none => simp
      | some j => simp [Nat.add_assoc, Nat.add_comm 1 j]
theorem keyOf_rep (hT : TabOk P T) {kt : Nat} {ky : Ty} (hk : T.ty kt = some ky) {x : VV} {ks : List Int} {rx : Value} (h : keyOf ky x = some ks) (hx : RepV w K H rx x) :
    (∃ q n, ky.d = .int q ∧ shOf ky = .int q ∧ ks = [n] ∧ rx = .int q n) ∨ (shOf ky = .nums ky.size ∧ ky.cmp = true ∧ ks.length = ky.size ∧ rx = nums ks) := by
  unfold keyOf at h
  split at h
  · rename_i k' n
    split at h
    · rename_i k hd
      split at h
      · rename_i e
        subst e
        cases h
        exact .inl ⟨_, n, hd, by simp [shOf, hd], rfl, rep_int hx⟩
      · cases h
    · cases h
  · rename_i cs
    cases hb : (ky.cmp && Nat.beq cs.length ky.size) with
    | false => rw [hb] at h; cases h
    | true =>
      rw [hb] at h
      simp only [cond_true] at h
      simp only [Bool.and_eq_true] at hb
      obtain ⟨rfl, hl⟩ := agg_ints hx h
      refine .inr ⟨?_, hb.1, by rw [hl]; exact Nat.eq_of_beq_eq_true hb.2, rfl⟩
      unfold shOf
      split
      · rename_i k hd
        have hC := (hT.ty _ _ hk).cmp hb.1
        obtain ⟨d, hd1, hd2, _⟩ := hC.und
        have hdd := (hT.ty _ _ hk).d
        rw [hd] at hdd
        have : P.underlying kt = some (.int k) := hdd
        rw [hd1] at this
        cases this
        exact absurd rfl (hd2 k)
      · rfl
  · cases h

theorem run_find (hT : TabOk P T) {kt : Nat} {ky : Ty} (hk : T.ty kt = some ky) {x : VV} {ks : List Int} {rx : Value} (h : keyOf ky x = some ks) (hx : RepV w K H rx x) {l : List MapEntry} {es : List (List Int × VV)}
    (he : Ents w K H (shOf ky) l es) :
    (∀ e, (Instr.checkKey e 10000 kt rx).run P w = .ok () w) ∧ (Instr.findKey kt rx l).run P w = .ok ((aidx ks es).bind fun j => (l[j]?).map fun e => (j, e.val)) w ∧ rx = keyVal (shOf ky) ks ∧ ks.length = (shOf ky).len ∧ Instr.sameBits 10000 rx rx = true := by
  rcases keyOf_rep hT hk h hx with ⟨q, n, hd, hs, rfl, rfl⟩ | ⟨hs, hc, hlen, rfl⟩
  · have hu : P.underlying kt = some (.int q) := by have := (hT.ty _ _ hk).d; rw [hd] at this; exact this
    rw [hs] at he ⊢
    have hf := find_int (n := n) l es 0 he
    refine ⟨fun e => by rw [show (10000 : Nat) = 9999 + 1 from rfl, Instr.checkKey]; simp [run_underlying hu], ?_, rfl, rfl, by simp [Instr.sameBits]⟩
    simp only [Instr.findKey, Sem.run_bind, run_underlying hu, Result.andThen_ok, hf]
    simp
  · have hC := (hT.ty _ _ hk).cmp hc
    rw [hs] at he ⊢
    have hf := find_ask hC hlen l es 0 he
    obtain ⟨d, hd1, hd2, hd3, hd4⟩ := hC.und
    refine ⟨fun e => hC.key ks e w hlen, ?_, rfl, hlen, ?_⟩
    · simp only [Instr.findKey, Sem.run_bind, run_underlying hd1, Result.andThen_ok]
      have hno : Instr.findNow d (nums ks) l 0 = none ∨ (l = [] ∧ Instr.findNow d (nums ks) l 0 = some none) := by
        cases l with
        | nil => exact .inr ⟨rfl, rfl⟩
        | cons e l =>
          refine .inl ?_
          simp only [Instr.findNow]
          have : Instr.sameNow d (nums ks) e.key = none := by
            unfold Instr.sameNow nums
            split <;> first | rfl | (rename_i h1; cases h1) | (rename_i h1 h2; cases h1)
          rw [this]
      rcases hno with h1 | ⟨rfl, h1⟩
      · rw [h1]
        simpa using hf
      · rw [h1]
        have : es = [] := List.eq_nil_of_length_eq_zero (by have := he.1; simpa using this.symm)
        subst this
        simp [aidx]
    · simp only [nums, Instr.sameBits, Bool.and_eq_true, beq_self_eq_true, true_and, List.all_eq_true]
      intro p hp
      obtain ⟨a, b⟩ := p
      obtain ⟨i, hi, e⟩ := List.getElem_of_mem hp
      simp only [List.getElem_zip, Prod.mk.injEq] at e
      obtain ⟨e1, e2⟩ := e
      rw [← e1, ← e2]
      simp [Instr.sameBits]

theorem zeroV_ok {t : Nat} {y : Ty} {v : VV} (hY : TyOk P t y) (h : zeroV y = some v) : RepV w K H y.z v ∧ Cl H.length v := by
  unfold zeroV at h
  have hz := hY.zlen
  cases ha : y.agg with
  | true =>
    rw [ha] at h
    simp only [cond_true, Option.some.injEq] at h
    subst h
    refine ⟨?_, cl_agg.2 fun c hc => ?_⟩
    · unfold Ty.z
      rw [ha]
      exact agg_of_PW (PW.of_arr (by simp) (zero_rep hY))
    · obtain ⟨v, _, rfl⟩ := List.mem_map.1 hc
      exact ofValue_cl _ _
  | false =>
    rw [ha] at h
    simp only [cond_false] at h
    split at h
    · rename_i z hzz
      cases h
      unfold Ty.z
      rw [ha, hzz]
      exact ⟨ofValue_ok _, ofValue_cl _ _⟩
    · cases h
theorem vlookup_ok (hT : TabOk P T) (hI : Inv G w K M) {t : Nat} {x k v : VV} {ok : Bool} {rx rk : Value} (h : vlookup T t x k ok M = some v) (hx : RepV w K M.H rx x) (hk : RepV w K M.H rk k) :
    ∃ rv, (Instr.lookup t rx rk ok).run P w = .ok rv w ∧ RepV w K M.H rv v ∧ Cl M.H.length v := by
  unfold vlookup at h
  split at h
  · rename_i kt e size zero agg cmp hty
    have hd : P.underlying t = some (.map kt e) := (hT.ty _ _ hty).d
    split at h
    · rename_i ky ey hky hey
      split at h
      · rename_i ks z hks hz
        obtain ⟨hz1, hz2⟩ := zeroV_ok (w := w) (K := K) (H := M.H) (hT.ty _ _ hey) hz
        have hzr := run_zero' (P := P) (w := w) (hT.ty _ _ hey)
        have fin : ∀ (l : Array MapEntry) (es : List (List Int × VV)), Ents w K M.H (shOf ky) l.toList es → (∀ p ∈ es, Cl M.H.length p.2) →
            (match assoc ks es with | some v => some (bif ok then VV.tup [v, .p (.bool true)] else v) | none => some (bif ok then VV.tup [z, .p (.bool false)] else z)) = some v →
            ∃ r rv b, (Instr.findKey kt rk l.toList).run P w = .ok r w ∧ (∀ e, (Instr.checkKey e 10000 kt rk).run P w = .ok () w) ∧ ((r = none ∧ rv = ey.z ∧ b = false) ∨ ∃ j, r = some (j, rv) ∧ b = true) ∧
              RepV w K M.H (if ok then .tuple #[rv, .bool b] else rv) v ∧ Cl M.H.length v := by
          intro l es he hcl h
          obtain ⟨hck, hfind, hkv, hlen, _⟩ := run_find hT hky hks hk he
          have two : ∀ (rv : Value) (u : VV) (b : Bool), RepV w K M.H rv u → Cl M.H.length u → some (bif ok then VV.tup [u, .p (.bool b)] else u) = some v → RepV w K M.H (if ok then .tuple #[rv, .bool b] else rv) v ∧ Cl M.H.length v := by
            intro rv u b hr hc e
            cases ok with
            | false => simp only [cond_false, Option.some.injEq] at e; subst e; exact ⟨hr, hc⟩
            | true =>
              simp only [cond_true, Option.some.injEq] at e
              subst e
              refine ⟨.tup _ _ rfl fun i a c ha hcc => ?_, cl_tup.2 fun c hcc => ?_⟩
              · match i, ha, hcc with
                | 0, ha, hcc => simp at ha hcc; subst ha hcc; exact hr
                | 1, ha, hcc => simp at ha hcc; subst ha hcc; exact .p _ _ (.bool _)
                | i + 2, ha, hcc => simp at hcc
              · simp at hcc
                rcases hcc with rfl | rfl
                · exact hc
                · exact cl_p _ _
          rw [assoc_aidx] at h
          cases ha : aidx ks es with
          | none =>
            rw [ha] at h hfind
            simp only [Option.bind_none] at h hfind
            obtain ⟨r1, r2⟩ := two _ z false hz1 hz2 h
            exact ⟨_, _, false, hfind, hck, .inl ⟨rfl, rfl, rfl⟩, r1, r2⟩
          | some j =>
            obtain ⟨u, hu⟩ := aidx_spec ha
            rw [ha] at h hfind
            simp only [Option.bind_some, hu, Option.map_some] at h hfind
            have hjl := (List.getElem?_eq_some_iff.1 hu).1
            have hl := he.1
            have hlj : l.toList[j]? = some (l.toList[j]'(by omega)) := List.getElem?_eq_getElem _
            rw [hlj] at hfind
            obtain ⟨_, _, hr⟩ := he.2 j _ _ hlj hu
            obtain ⟨r1, r2⟩ := two _ u true hr (hcl _ (List.mem_of_getElem? hu)) h
            exact ⟨_, _, true, hfind, hck, .inr ⟨j, rfl, rfl⟩, r1, r2⟩
        cases hx with
        | p v0 x0 hP =>
          cases hP with
          | nilm =>
            simp only at h
            obtain ⟨r, rv, b, f1, f2, f0, f3, f4⟩ := fin #[] [] ⟨rfl, fun i a b ha => by simp at ha⟩ (by simp) h
            refine ⟨_, ?_, f3, f4⟩
            rcases f0 with ⟨rfl, rfl, rfl⟩ | ⟨j, rfl, rfl⟩ <;> cases ok <;> simp at f1 <;> simp [Instr.lookup, run_underlying hd, f1, f2, hzr]
          | _ => simp at h
        | mp id b hK hn =>
          simp only at h
          cases ho : M.H[id]? with
          | none => rw [ho] at h; simp at h
          | some o =>
            rw [ho] at h
            cases o with
            | mpo sh es =>
              simp only at h
              by_cases hsh : sh = shOf ky
              · subst hsh
                simp only [if_true] at h
                obtain ⟨b', ents, clock, e1, h1, h2, h3⟩ := hI.obj id _ ho
                rw [hK] at e1
                cases e1
                have hcl := hI.content ho
                obtain ⟨r, rv, bb, f1, f2, f0, f3, f4⟩ := fin ents es (PW.of_arr' h2 h3) (fun p hp => hcl p.2 (List.mem_map.2 ⟨p, hp, rfl⟩)) h
                have hg : (getObj b).run P w = .ok (.map ents clock) w := MapKept.run_getObj_map h1
                refine ⟨_, ?_, f3, f4⟩
                rcases f0 with ⟨rfl, rfl, rfl⟩ | ⟨j, rfl, rfl⟩ <;> cases ok <;> simp [Instr.lookup, run_underlying hd, hg, f1, f2, hzr]
              · simp only [hsh, if_false] at h
                cases h
            | _ => simp at h
        | _ => simp at h
      · cases h
    · cases h
  · cases h
end
end Go.Proofs.Ytmagiabapakhcaa.Vm
