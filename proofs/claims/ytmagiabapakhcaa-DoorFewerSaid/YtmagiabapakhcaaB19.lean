/- A part of the proofs about the chapter of the doors; it states no condition of its own. -/
import Derived.Test.YtmagiabapakhcaaB18
set_option linter.unusedVariables false
set_option linter.unusedSimpArgs false
/- A machine on values: the rule of ranges over functions, and of yield. -/
namespace Go.Proofs.Ytmagiabapakhcaa.Vm
open Go

def nw (w : World) (o : Obj) : World := { w with heap := w.heap.push o }
theorem newObj_run {P : Program} {w : World} (o : Obj) : (newObj o).run P w = .ok w.heap.size (nw w o) := rfl
theorem nw_size (w : World) (o : Obj) : (nw w o).heap.size = w.heap.size + 1 := by
  show (w.heap.push o).size = _
  simp
section
variable {P : Program} {T : Tab} {cx : Cx} {e : Env} {M : Mem} {D : List Nat} {Q : PQ}

theorem W_range (hT : TabOk P T) {g : Operand} {ps : Array Tmp} {assign body : Code} {f : Nat} {fn : Func} {first caps : List VV} (hrd : cx.rd = none) (hg : ev e g = .fn (.func f) first caps) (hf : T.fn f = some fn)
    (h : VC P f ((first ++ [VV.yl (M.H.length + 1)] ++ caps).map (sarg T f)) ((M.push .dfr).push (.lp (mkLoop T cx e ps assign body M.H.length))) (rangeQ P cx e (M.H.length + 1) (M.H.length :: D) Q)) :
    WCode P cx (.rangeFunc g ps assign body) e M D Q := by
  intro G w K a hs
  refine wpIn_rangeFunc fun fn' _ => ?_
  obtain ⟨e1, i1⟩ := step_new (w' := nw w (.deferred (some []))) hs.inv ⟨rfl, rfl, rfl, by rw [nw_size]; omega⟩ (fun b hb => by show (w.heap.push _)[b]? = _; rw [Array.getElem?_push_lt hb]; simp [hb]) .dfr (some w.heap.size) (fun b e => by cases e; rw [nw_size]; omega)
    (fun c hc => by simp [contents] at hc) (fun hE => ⟨w.heap.size, rfl, by show (w.heap.push _)[w.heap.size]? = _; simp⟩)
  have hf1 := hs.fr.ext (M' := M.push .dfr) e1
  have hd1 : (M.push .dfr).H[M.H.length]? = some .dfr := by simp [Mem.push]
  have hl1 : (M.push .dfr).H.length = M.H.length + 1 := by simp [Mem.push]
  obtain ⟨w2, hw2⟩ : ∃ w2 : World, w2 = { nw w (.deferred (some [])) with heap := (nw w (.deferred (some []))).heap.push (.loop { state := .ready, pending := none, fn := fn', tmps := a.tmps, params := ps, assign, body, defers := w.heap.size }) } := ⟨_, rfl⟩
  obtain ⟨e2, i2⟩ := new_loop (T := T) i1 hf1 fn' ps assign body (dfr := M.H.length) (d := w.heap.size) (upd_same _ _ _) (by omega) (fun m k e => by rw [hd1] at e; cases e) _ hw2
  have he := e1.trans e2
  have henter : (Instr.enterLoop fn' a.tmps ps assign body (fence (cx.rd.bind K)).round).run P w = .ok ((nw w (.deferred (some []))).heap.size, [{ target := .collected w.heap.size, args := #[] }]) w2 := by
    rw [hrd]
    simp only [Instr.enterLoop, fence, Option.bind_none, bind_assoc, pure_bind]
    rw [run_bind_ok (newObj_run _), run_bind_ok (newObj_run _), hw2]
    rfl
  have hid : ((M.push .dfr).push (.lp (mkLoop T cx e ps assign body M.H.length))).H[M.H.length + 1]? = some (.lp (mkLoop T cx e ps assign body M.H.length)) := by
    rw [← hl1]; simp [Mem.push]
  have hK2 : upd (upd K M.H.length (some w.heap.size)) (M.push VObj.dfr).H.length (some (nw w (.deferred (some []))).heap.size) (M.H.length + 1) = some (nw w (.deferred (some []))).heap.size := by
    rw [hl1]; exact upd_same _ _ _
  have hs2 : StOk cx G w2 (upd (upd K M.H.length (some w.heap.size)) (M.push VObj.dfr).H.length (some (nw w (.deferred (some []))).heap.size)) ((M.push .dfr).push (.lp (mkLoop T cx e ps assign body M.H.length))) { a with defers := [{ target := .collected w.heap.size, args := #[] }] ++ a.defers } e (M.H.length :: D) := by
    refine ⟨hs.fr.ext he, ?_, i2, fun id hid => by rw [hrd] at hid; cases hid⟩
    have hdf := df_ext he hs.df
    refine ⟨by simpa using hdf.1, fun i x id hx hid => ?_⟩
    cases i with
    | zero =>
      cases hx
      cases hid
      obtain ⟨q1, q2⟩ := e2.dfr hd1
      exact ⟨w.heap.size, q2.trans (upd_same _ _ _), rfl, q1⟩
    | succ i => exact hdf.2 i x id (by simpa using hx) (by simpa using hid)
  obtain ⟨d, args, h1, h2, h3⟩ := range_aux (K0 := K) (w0 := w) (M0 := M) hT (by rw [hrd]; rfl) hg hf hs2 he hid hK2 h
  exact ⟨(nw w (.deferred (some []))).heap.size, [{ target := .collected w.heap.size, args := #[] }], w2, d, w2, f, args, w2, henter, h1, fun _ _ => trivial, h2, by simp [fence, Fence.wide], h3⟩

end
end Go.Proofs.Ytmagiabapakhcaa.Vm
