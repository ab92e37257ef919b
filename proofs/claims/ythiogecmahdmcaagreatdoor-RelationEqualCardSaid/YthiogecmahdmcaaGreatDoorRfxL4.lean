/- Operations that turn the heap: slice literals, make, append, copy. -/
import Derived.Test.YthiogecmahdmcaaGreatDoorRfxL3
import Derived.IntWalk
set_option linter.unusedVariables false
set_option linter.unusedSimpArgs false
namespace Go.Abs
open Go.RowKit

section
variable {P : Program} {Γ : Ctx} {W W' : World} {B : Nat} {h : Heap}

theorem fillA_len {place : Nat → Option (Nat × Nat)} : ∀ {parts : List (Nat × AV)} {l out : List AV}, fillA place l parts = some out → out.length = l.length
  | [], l, out, h => by
    simp only [fillA, Option.some.injEq] at h
    rw [h]
  | (i, v) :: parts, l, out, h => by
    simp only [fillA] at h
    split at h
    · cases h
    · split at h
      · cases h
      · split at h
        · rename_i hc
          rw [fillA_len h, splice_len hc.2]
        · cases h

theorem lit_run {t : TypeId} {len size : Nat} {elem : TypeId} {ps : List (Nat × AV)} {parts' : Array (Nat × Value)} {cells : List AV} (h : litSlice P t len ps = some (cells, size, elem))
    (hl : parts'.toList.length = ps.length) (hall : ∀ (j : Nat) p p', ps[j]? = some p → parts'.toList[j]? = some p' → p'.1 = p.1 ∧ Rep Γ W p.2 p'.2) :
    ∃ cells' : Array Value, (Instr.buildSlice t len parts').run P W = .ok (.slice (some ⟨W.heap.size, 0, none⟩) len len) (W.alloc (.cells cells' elem)) ∧ Cells Γ W cells cells'.toList ∧
      cells.length = len * size ∧ P.underlying t = some (.slice elem) := by
  unfold litSlice at h
  split at h
  · rename_i el hu
    split at h
    · rename_i sz hsz
      split at h
      · rename_i hlim
        split at h
        · rename_i z hz
          split at h
          · rename_i hcond
            split at h
            · rename_i out hout
              simp only [Option.some.injEq, Prod.mk.injEq] at h
              obtain ⟨rfl, rfl, rfl⟩ := h
              -- the row of zero values
              have hzero : ∃ zero : Array Value, ((len * sz = 0 ∧ zero = #[]) ∨ (len * sz ≠ 0 ∧ ∃ zv, (zeroValue el).run P W = .ok zv W ∧ zero = zv.cells)) ∧
                  Cells Γ W (repl len z) ((Array.range (len * sz)).map (fun i => zero[i % zero.size]!)).toList ∧ (repl len z).length = len * sz := by
                by_cases h0 : len * sz = 0
                · rw [if_pos h0] at hz
                  injection hz with hz
                  subst hz
                  refine ⟨#[], .inl ⟨h0, rfl⟩, ?_, by rw [repl_len]; simp [h0]⟩
                  rw [h0]
                  have : repl len ([] : List AV) = [] := List.eq_nil_of_length_eq_zero (by rw [repl_len]; simp)
                  rw [this]
                  simpa using Cells.nil Γ W
                · rw [if_neg h0] at hz
                  obtain ⟨zv, i, hi, hzv, hcells⟩ := zeroT_rep hz
                  obtain ⟨ws, hws, hc, _⟩ := hcells Γ W
                  have hzl : z.length = sz := hcond.resolve_left h0
                  have hsz' : zv.cells.size = sz := by rw [hws]; simp [hc.len, hzl]
                  refine ⟨zv.cells, .inr ⟨h0, zv, run_zeroA hi hzv, rfl⟩, ?_, by rw [repl_len, hzl]⟩
                  · have := zeros_rep (zero := zv.cells) (by rw [hws]; simpa using hc) len
                    rw [hsz'] at this
                    rw [hsz']
                    exact this
              obtain ⟨zero, hz1, hz2, hz3⟩ := hzero
              obtain ⟨cells', h1, h2⟩ := fillA_rep (place' := fun i => some (i * sz, sz)) (fun j p hp => hp) hout hz2 hl hall
              refine ⟨cells', ?_, h2, by rw [fillA_len hout, hz3], hu⟩
              unfold Instr.buildSlice
              simp only [Sem.run_bind, run_underlyingA hu, Result.andThen_ok, run_sizeOfA hsz]
              rw [if_neg (by omega)]
              rcases hz1 with ⟨h0, rfl⟩ | ⟨h0, zv, hrz, rfl⟩
              · rw [if_pos h0]
                simp only [Sem.run_bind, Sem.run_pure, Result.andThen_ok, h1, newRow, run_newObj, World.alloc_eq]
              · rw [if_neg h0]
                simp only [Sem.run_bind, hrz, Sem.run_pure, Result.andThen_ok, h1, newRow, run_newObj, World.alloc_eq]
            · cases h
          · cases h
        · cases h
      · cases h
    · cases h
  · cases h

/-- A literal whose cells are values alone: a slice that is only read. -/
theorem litP_done {T : List AV} {a : Act} {o : Oper} {t : TypeId} {len : Nat} {parts : Array (Nat × Operand)} {ps : List (Nat × AV)} {cells : List AV} {size : Nat} {elem : TypeId}
    (R : ActRel Γ W T a) (ho : o.op = .buildSlice t len parts) (hps : partsO (evA T) parts = some ps) (hlit : litSlice P t len ps = some (cells, size, elem)) (hc1 : cells.all c1 = true)
    (hGW : ∀ β o, Γ.G β o → β < W.heap.size) :
    ∃ v' W' G', (execOp a.eval o).run P W = .ok (.value v') W' ∧ (∀ β o, Γ.G β o → G' β o) ∧ (∀ β o, G' β o → Γ.G β o ∨ (W.heap.size ≤ β ∧ β < W'.heap.size)) ∧
      (∀ β, β < W.heap.size → W'.heap[β]? = W.heap[β]?) ∧ W.heap.size ≤ W'.heap.size ∧ Aside W W' ∧ RepC W' G' (.imm true len cells) v' := by
  obtain ⟨h1, h2⟩ := partsO_rep R hps
  obtain ⟨cells', hr, hc, hlen, hu⟩ := lit_run hlit h1 h2
  refine ⟨.slice (some ⟨W.heap.size, 0, none⟩) len len, W.alloc (.cells cells' elem), fun β o => Γ.G β o ∨ β = W.heap.size, ?_, fun β o h => .inl h, fun β o h => ?_, fun β hβ => ?_, by simp, aside_alloc _, ?_⟩
  · simp only [execOp, ho, Sem.run_bind, hr, Result.andThen_ok, Sem.run_pure]
  · rcases h with h | h
    · exact .inl h
    · exact .inr (by simp; omega)
  · exact Below.heap_alloc _ _ _ hβ
  · have hcl : ∀ (i : Nat) x, cells[i]? = some x → ∃ (hi : i < cells'.size), (W.alloc (.cells cells' elem)).cell? ⟨W.heap.size, 0 + i, none⟩ = some cells'[i] ∧ Rep Γ W x cells'[i] := by
      intro i x hx
      have hi : i < cells.length := (List.getElem?_eq_some_iff.1 hx).1
      have hi' : i < cells'.size := by rw [← Array.length_toList, hc.len]; exact hi
      exact ⟨hi', by rw [Nat.zero_add, World.cell?_alloc_new]; simp [hi'], hc.rep i x cells'[i] hx (by simp [hi'])⟩
    refine .imm _ _ _ _ _ (fun i => cells'.getD i undef) (Nat.le_refl _) (fun _ => rfl) (fun i x hx => ?_) (fun i x hx => ?_)
    · obtain ⟨hi, e1, _⟩ := hcl i x hx
      refine ⟨List.all_eq_true.1 hc1 x (List.mem_of_getElem? hx), rfl, .inr rfl, ?_⟩
      rw [e1]
      simp [Array.getD, hi]
    · obtain ⟨hi, _, e2⟩ := hcl i x hx
      have := (e2.toC1 (List.all_eq_true.1 hc1 x (List.mem_of_getElem? hx)))
      have hd : cells'.getD i undef = cells'[i] := by simp [Array.getD, hi]
      rw [hd]
      refine this.mono (fun β o hG => ⟨.inl hG, cell?_of_heap (Below.heap_alloc _ _ _ (hGW β o hG))⟩)

theorem lit_done {T : List AV} {a : Act} {o : Oper} {t : TypeId} {len : Nat} {parts : Array (Nat × Operand)} {ps : List (Nat × AV)} {cells : List AV} {size : Nat} {elem : TypeId}
    (R : ActRel Γ W T a) (H : HeapRel Γ W B h) (hB : B ≤ W.heap.size) (ho : o.op = .buildSlice t len parts) (hps : partsO (evA T) parts = some ps) (hlit : litSlice P t len ps = some (cells, size, elem)) :
    (len = 0 → Done P Γ W B a o h (.imm true 0 [])) ∧ Done P Γ W B a o (push h elem true cells) (.own h.length 0 0 len size) := by
  obtain ⟨h1, h2⟩ := partsO_rep R hps
  obtain ⟨cells', hr, hc, hlen, hu⟩ := lit_run hlit h1 h2
  have hrun : (execOp a.eval o).run P W = .ok (.value (.slice (some ⟨W.heap.size, 0, none⟩) len len)) (W.alloc (.cells cells' elem)) := by
    simp only [execOp, ho, Sem.run_bind, hr, Result.andThen_ok, Sem.run_pure]
  have hsz : cells'.size = cells.length := by rw [← Array.length_toList, hc.len]
  refine ⟨fun h0 => ?_, ?_⟩
  · subst h0
    refine ⟨_, _, Γ.guard Γ.G, .inl hrun, H.more hB (fun β o h => h) (fun β o h => .inl h) (fun β hβ => Below.heap_alloc _ _ _ hβ) (by simp), ext_more H (fun β o h => h) (fun β o h => .inl h) (fun β hβ => Below.heap_alloc _ _ _ hβ), below_push rfl (aside_alloc _) hB,
      .cl _ _ (.imm _ _ _ _ _ (fun _ => undef) (Nat.le_refl _) (fun _ => rfl) (fun i x hx => by simp at hx) (fun i x hx => by simp at hx))⟩
  · have hc' : Cells Γ W cells (cells'.toList.take cells.length) := by
      rw [← hsz, ← Array.length_toList, List.take_length]
      exact hc
    refine ⟨_, _, Γ.new ⟨0, cells.length, W.heap.size, 0, cells'.size⟩, .inl hrun, H.push hB rfl hc' (by omega) (fun _ => hsz) (fun o _ h => by simp at h), ext_push H rfl, below_push rfl (aside_alloc _) hB, ?_⟩
    rw [← H.n]
    exact rep_new_own (q := ⟨0, cells.length, W.heap.size, 0, cells'.size⟩) (Nat.le_refl _) (by simp [hlen]) (by simp [hsz, hlen]) rfl

theorem make_done {T : List AV} {a : Act} {o : Oper} {t elem : TypeId} {l c : Operand} {n cp : Int} {sz bytes : Nat} {z : List AV}
    (R : ActRel Γ W T a) (H : HeapRel Γ W B h) (hB : B ≤ W.heap.size) (ho : o.op = .makeSlice t l c) (hu : P.underlying t = some (.slice elem)) (hl : evA T l = some (.int .i64 n)) (hc : evA T c = some (.int .i64 cp))
    (hsz : sizeT P elem = some sz) (hby : bytesT P elem = some bytes) (hz : zeroT P elem = some z) (h0 : 0 ≤ n) (h1 : n ≤ cp) (h2 : (bytes : Int) * cp ≤ 140737488355328) (h3 : cp ≤ 140737488355328) (hzl : z.length = sz) (hs0 : 0 < sz) :
    (n = 0 ∧ cp = 0 → Done P Γ W B a o h (.imm true 0 [])) ∧ Done P Γ W B a o (push h elem false (repl n.toNat z)) (.own h.length 0 0 n.toNat sz) := by
  obtain ⟨zv, i, hi, hzv, hcells⟩ := zeroT_rep hz
  obtain ⟨ws, hws, hcw, _⟩ := hcells Γ W
  have el := rep_int (evA_rep R hl)
  have ec := rep_int (evA_rep R hc)
  have hib : i.bytes = bytes := by simp [bytesT, hi] at hby; exact hby
  have wl : IntKind.i64.wrap n = n := IntWalk.i64_in _ (by omega)
  have wc : IntKind.i64.wrap cp = cp := IntWalk.i64_in _ (by omega)
  have hzs : zv.cells.size = sz := by rw [hws]; simp [hcw.len, hzl]
  have hpos : 0 ≤ (bytes : Int) * cp := Int.mul_nonneg (by omega) (by omega)
  have hbig : ¬ (bytes : Int) * cp > 2 ^ 48 := by omega
  have hrun : (execOp a.eval o).run P W = .ok (.value (.slice (some ⟨W.heap.size, 0, none⟩) n.toNat cp.toNat)) (W.alloc (.cells ((Array.range (cp.toNat * sz)).map (fun j => zv.cells[j % zv.cells.size]!)) elem)) := by
    simp only [execOp, ho, Instr.makeSlice, Sem.run_bind, run_underlyingA hu, Result.andThen_ok, el, ec, asInt, asIntOf, Sem.run_pure, run_typeInfoA hi, hib, wl, wc]
    have t1 : (decide (cp < 0) || decide ((bytes : Int) * cp > 2 ^ 48)) = false := by simp; omega
    have t2 : (decide (cp < 0) || decide ((bytes : Int) * cp > 2 ^ 48) || decide (n < 0) || decide (n > cp)) = false := by simp; omega
    rw [if_neg (by rw [t2]; simp)]
    simp only [Sem.run_bind, run_askRoom, Result.andThen_ok, run_sizeOfA hsz]
    by_cases hc0 : cp.toNat * sz = 0
    · rw [if_pos hc0]
      simp only [Sem.run_bind, Sem.run_pure, Result.andThen_ok, newRow, run_newObj, World.alloc_eq]
      have e : ∀ f : Nat → Value, (Array.range 0).map f = #[] := fun f => by
        apply Array.ext'
        simp
      rw [hc0, e, e]
    · rw [if_neg hc0]
      simp only [Sem.run_bind, run_zeroA hi hzv, Sem.run_pure, Result.andThen_ok, newRow, run_newObj, World.alloc_eq]
  refine ⟨fun hh => ?_, ?_⟩
  · obtain ⟨rfl, rfl⟩ := hh
    refine ⟨_, _, Γ.guard Γ.G, .inl hrun, H.more hB (fun β o h => h) (fun β o h => .inl h) (fun β hβ => Below.heap_alloc _ _ _ hβ) (by simp), ext_more H (fun β o h => h) (fun β o h => .inl h) (fun β hβ => Below.heap_alloc _ _ _ hβ), below_push rfl (aside_alloc _) hB,
      .cl _ _ (.imm _ _ _ _ _ (fun _ => undef) (Nat.le_refl _) (fun _ => rfl) (fun i x hx => by simp at hx) (fun i x hx => by simp at hx))⟩
  · have hall := zeros_rep (Γ := Γ) (W := W) (zero := zv.cells) (by rw [hws]; simpa using hcw) cp.toNat
    rw [hzs] at hall
    have hle : n.toNat * sz ≤ cp.toNat * sz := Nat.mul_le_mul_right _ (by omega)
    have hrl : (repl n.toNat z).length = n.toNat * sz := by rw [repl_len, hzl]
    have htake : repl n.toNat z = (repl cp.toNat z).take (n.toNat * sz) := by
      apply List.ext_getElem?
      intro j
      rw [List.getElem?_take, repl_get, repl_get, hzl]
      by_cases hj : j < n.toNat * sz
      · rw [if_pos hj, if_pos hj, if_pos (by omega)]
      · rw [if_neg hj, if_neg hj]
    have hcs : ((Array.range (cp.toNat * sz)).map (fun j => zv.cells[j % zv.cells.size]!)).size = cp.toNat * sz := by simp
    refine ⟨_, _, Γ.new ⟨0, (repl n.toNat z).length, W.heap.size, 0, ((Array.range (cp.toNat * sz)).map (fun j => zv.cells[j % zv.cells.size]!)).size⟩, .inl hrun, H.push hB rfl ?_ (by rw [hrl, hcs]; exact hle) (fun h => by cases h) (fun o _ h => by simp at h), ext_push H rfl, below_push rfl (aside_alloc _) hB, ?_⟩
    · rw [hrl]
      rw [htake]
      rw [hzs]
      exact hall.take _
    · rw [← H.n]
      exact rep_new_own (q := ⟨0, (repl n.toNat z).length, W.heap.size, 0, ((Array.range (cp.toNat * sz)).map (fun j => zv.cells[j % zv.cells.size]!)).size⟩) (by omega) (by simp only [hrl]; exact hle) (by simp only [hcs]; omega) rfl

end
end Go.Abs
