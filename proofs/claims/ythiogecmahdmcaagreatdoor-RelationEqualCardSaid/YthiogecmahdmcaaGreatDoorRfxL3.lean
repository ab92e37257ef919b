/- Operations that turn the heap, one by one: variables, stores, literals, make. -/
import Derived.Test.YthiogecmahdmcaaGreatDoorRfxL2
set_option linter.unusedVariables false
set_option linter.unusedSimpArgs false
namespace Go.Abs
open Go.RowKit

def Ctx.guard (Γ : Ctx) (G : Nat → Nat → Prop) : Ctx := { Γ with G := G }

section
variable {P : Program} {Γ : Ctx} {W W' : World} {B : Nat} {h : Heap}

/-- The world grows, more cells are guarded: none of them below the old world's end. -/
theorem ext_more {G' : Nat → Nat → Prop} (H : HeapRel Γ W B h) (hG : ∀ β o, Γ.G β o → G' β o) (hlo : ∀ β o, G' β o → Γ.G β o ∨ Γ.B ≤ β) (hh : ∀ β, β < W.heap.size → W'.heap[β]? = W.heap[β]?) : Ext Γ W (Γ.guard G') W' :=
  ⟨rfl, fun _ h => h, fun b q hb hq => ⟨q, hq, .inl rfl⟩, fun β o h => ⟨hG β o h, cell?_of_heap (hh β (H.G β o h))⟩, hlo⟩

theorem HeapRel.more {G' : Nat → Nat → Prop} (H : HeapRel Γ W B h) (hB : B ≤ W.heap.size) (hG : ∀ β o, Γ.G β o → G' β o) (hG' : ∀ β o, G' β o → Γ.G β o ∨ (W.heap.size ≤ β ∧ β < W'.heap.size))
    (hh : ∀ β, β < W.heap.size → W'.heap[β]? = W.heap[β]?) (hs : W.heap.size ≤ W'.heap.size) : HeapRel (Γ.guard G') W' B h := by
  refine ⟨H.eB, H.n, H.bn, H.ub, fun b k hk hd => ?_, H.back, H.inj, fun β o h => ?_⟩
  · obtain ⟨q, hq, ok⟩ := H.blk b k hk hd
    refine ⟨q, hq, ok.ext (ext_more H hG (fun β o h => (hG' β o h).imp id (fun h => by have := H.eB; omega)) hh) (hh _ (H.lt hq).2) (fun o ho => ?_)⟩
    rcases hG' _ _ ho with h1 | h1
    · exact h1
    · have := (H.lt hq).2
      omega
  · rcases hG' _ _ h with h1 | h1
    · exact Nat.lt_of_lt_of_le (H.G _ _ h1) hs
    · exact h1.2

theorem repl_get (z : List AV) : ∀ (n i : Nat), (repl n z)[i]? = if i < n * z.length then z[i % z.length]? else none
  | 0, i => by simp [repl]
  | n + 1, i => by
    simp only [repl]
    rw [List.getElem?_append]
    have hm : (n + 1) * z.length = n * z.length + z.length := Nat.succ_mul _ _
    split
    · rename_i h
      rw [if_pos (by omega), Nat.mod_eq_of_lt h]
    · rename_i h
      rw [repl_get z n (i - z.length)]
      by_cases h2 : i - z.length < n * z.length
      · rw [if_pos h2, if_pos (by omega)]
        congr 1
        exact (Nat.mod_eq_sub_mod (by omega)).symm
      · rw [if_neg h2, if_neg (by omega)]

theorem repl_len (z : List AV) : ∀ n : Nat, (repl n z).length = n * z.length
  | 0 => by simp [repl]
  | n + 1 => by simp [repl, repl_len z n, Nat.succ_mul, Nat.add_comm]

/-- Rows of zero values. -/
theorem zeros_rep {z : List AV} {zero : Array Value} (hc : Cells Γ W z zero.toList) (n : Nat) :
    Cells Γ W (repl n z) ((Array.range (n * zero.size)).map (fun i => zero[i % zero.size]!)).toList := by
  have hl : zero.size = z.length := by rw [← Array.length_toList, hc.len]
  refine ⟨by simp [repl_len, hl], fun i x hx => ?_, fun i x y hx hy => ?_⟩
  · rw [repl_get] at hx
    split at hx
    · exact hc.one _ x hx
    · cases hx
  · rw [repl_get] at hx
    split at hx
    · rename_i hi
      have hi' : i < n * zero.size := by rw [hl]; exact hi
      have hpos : 0 < zero.size := by
        rcases Nat.eq_zero_or_pos zero.size with h0 | h0
        · rw [h0] at hi'; simp at hi'
        · exact h0
      have hmod : i % zero.size < zero.size := Nat.mod_lt _ hpos
      have hxe : zero.toList[i % zero.size]? = some zero[i % zero.size] := by simp [hmod]
      rw [← hl] at hx
      have := hc.rep _ x _ hx hxe
      simp only [Array.toList_map, Array.toList_range, List.getElem?_map, List.getElem?_range hi', Option.map_some, Option.some.injEq] at hy
      subst hy
      rw [getElem!_pos zero (i % zero.size) hmod]
      exact this
    · cases hx

/-- The outcome of an operation that may turn the heap. -/
def Done (P : Program) (Γ : Ctx) (W : World) (B : Nat) (a : Act) (o : Oper) (h' : Heap) (v : AV) : Prop :=
  ∃ v' W' Γ', ((execOp a.eval o).run P W = .ok (.value v') W' ∨ ((execOp a.eval o).run P W = .ok .skip W' ∧ v' = undef)) ∧ Post Γ W B h' v v' Γ' W'

theorem aside_alloc (o : Obj) : Aside W (W.alloc o) := ⟨rfl, rfl, rfl⟩

theorem Cells.all {l : List AV} {ws : List Value} (hc : Cells Γ W l ws) : Cells Γ W l (ws.toArray.toList.take l.length) := by
  have : ws.toArray.toList.take l.length = ws := by
    rw [List.toList_toArray, ← hc.len, List.take_length]
  rw [this]
  exact hc

/-- A variable of one's own is laid. -/
theorem var_post (H : HeapRel Γ W B h) (hB : B ≤ W.heap.size) {el : TypeId} {l : List AV} {ws : List Value} (hc : Cells Γ W l ws) :
    Post Γ W B (push h el true l) (.ptr h.length 0 0) (.pointer (some ⟨W.heap.size, 0, none⟩)) (Γ.new ⟨0, l.length, W.heap.size, 0, ws.toArray.size⟩) (W.alloc (.cells ws.toArray el)) := by
  have hl := hc.len
  refine ⟨H.push hB rfl hc.all (by simp [hl]) (fun _ => by simp [hl]) (fun o _ h => by simp at h), ext_push H rfl, below_push rfl (aside_alloc _) hB, ?_⟩
  rw [← H.n]
  exact rep_new_ptr rfl

theorem alloc_done {T : List AV} {a : Act} {o : Oper} {elem : TypeId} {z : List AV} (H : HeapRel Γ W B h) (hB : B ≤ W.heap.size) (ho : o.op = .alloc elem) (hz : zeroT P elem = some z) :
    Done P Γ W B a o (push h elem true z) (.ptr h.length 0 0) := by
  obtain ⟨zv, i, hi, hzv, hcells⟩ := zeroT_rep hz
  obtain ⟨ws, hws, hc, _⟩ := hcells Γ W
  refine ⟨_, _, _, .inl ?_, var_post H hB hc⟩
  simp only [execOp, ho, Instr.alloc, Sem.run_bind, run_zeroA hi hzv, Result.andThen_ok, newVar, newRow, run_newObj, Sem.run_pure, hws]
  rfl

theorem box_done {T : List AV} {a : Act} {o : Oper} {elem : TypeId} {x : Operand} {p : AV} {l : List AV} (R : ActRel Γ W T a) (H : HeapRel Γ W B h) (hB : B ≤ W.heap.size) (ho : o.op = .box elem x)
    (hx : evA T x = some p) (hl : cellsA p = some l) : Done P Γ W B a o (push h elem true l) (.ptr h.length 0 0) := by
  obtain ⟨ws, hws, hc⟩ := cellsA_rep hl (evA_rep R hx)
  refine ⟨_, _, _, .inl ?_, var_post H hB hc⟩
  simp only [execOp, ho, Instr.box, Sem.run_bind, Result.andThen_ok, newVar, newRow, run_newObj, Sem.run_pure, hws]
  rfl

theorem store_done {T : List AV} {a : Act} {o : Oper} {t : TypeId} {x y : Operand} {b ver off n : Nat} {p : AV} {vs : List AV} {h' : Heap} (R : ActRel Γ W T a) (H : HeapRel Γ W B h) (ho : o.op = .store t x y)
    (hx : evA T x = some (.ptr b ver off)) (hy : evA T y = some p) (hn : sizeT P t = some n) (hvs : cellsA p = some vs) (hlen : vs.length = n) (hst : storeA h b ver off vs = some h') :
    Done P Γ W B a o h' undefA := by
  unfold storeA at hst
  split at hst
  · rename_i k hk
    split at hst
    · rename_i hcond
      injection hst with hst
      subst hst
      obtain ⟨q, hq, hver, ok⟩ := H.get hk
      obtain ⟨ad, he, _, hg⟩ := rep_ptr (evA_rep R hx)
      have e1 := (hg q hq).2 hver
      subst e1
      obtain ⟨ws, hws, hc⟩ := cellsA_rep hvs (evA_rep R hy)
      obtain ⟨c, fz, hcell, hcsz, hfz, _⟩ := ok.ex
      have hl := hc.len
      have hok := ok.len
      have hroom := ok.room
      obtain ⟨W', hr, hw⟩ := run_storeCellsA (P := P) (o := q.base + off) ws 0 W c hcell hfz (by omega) (fun v hv => by
        obtain ⟨i, hi, rfl⟩ := List.getElem_of_mem hv
        have hi' : i < vs.length := by omega
        exact (hc.rep i vs[i] ws[i] (List.getElem?_eq_getElem hi') (List.getElem?_eq_getElem hi)).oneCell (hc.one i vs[i] (List.getElem?_eq_getElem hi')))
      rw [Nat.add_zero] at hw
      obtain ⟨r1, r2, r3⟩ := H.store hk hcond.1 hq hc hcond.2 hw
      refine ⟨undef, W', _, .inr ⟨?_, rfl⟩, r1, r2, r3, Rep.undef _ _⟩
      have hsz : (a.eval y).cells.size = n := by rw [hws]; simp; omega
      simp only [execOp, ho, Instr.storeAt, he, Instr.sureAddr, storeVar, Sem.run_bind, Sem.run_pure, Result.andThen_ok, run_sizeOfA hn]
      rw [if_neg (by omega), hws]
      simp [hr]
    · cases hst
  · cases hst

end
end Go.Abs
