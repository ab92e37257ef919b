/- Operations that want no heap, one by one. -/
import Derived.Test.YthiogecmahdmcaaGreatDoorRfxP2
set_option linter.unusedVariables false
set_option linter.unusedSimpArgs false
namespace Go.Abs
open Go.RowKit

/-- Two rows of cells: abstract, and the model's. -/
structure Cells (Γ : Ctx) (W : World) (l : List AV) (ws : List Value) : Prop where
  len : ws.length = l.length
  one : ∀ (i : Nat) x, l[i]? = some x → one x = true
  rep : ∀ (i : Nat) x y, l[i]? = some x → ws[i]? = some y → Rep Γ W x y

theorem Cells.ext {Γ Γ' : Ctx} {W W' : World} {l : List AV} {ws : List Value} (h : Cells Γ W l ws) (e : Ext Γ W Γ' W') : Cells Γ' W' l ws :=
  ⟨h.len, h.one, fun i x y hx hy => (h.rep i x y hx hy).ext e⟩

theorem Cells.nil (Γ : Ctx) (W : World) : Cells Γ W [] [] := ⟨rfl, fun i x h => by simp at h, fun i x y h => by simp at h⟩

theorem Cells.append {Γ : Ctx} {W : World} {l m : List AV} {ws us : List Value} (h : Cells Γ W l ws) (k : Cells Γ W m us) : Cells Γ W (l ++ m) (ws ++ us) := by
  refine ⟨by simp [h.len, k.len], fun i x hx => ?_, fun i x y hx hy => ?_⟩
  · rw [List.getElem?_append] at hx
    split at hx
    · exact h.one i x hx
    · exact k.one _ x hx
  · rw [List.getElem?_append] at hx hy
    rw [h.len] at hy
    split at hx
    · rename_i hi
      rw [if_pos hi] at hy
      exact h.rep i x y hx hy
    · rename_i hi
      rw [if_neg hi] at hy
      exact k.rep _ x y hx hy

theorem Cells.take {Γ : Ctx} {W : World} {l : List AV} {ws : List Value} (h : Cells Γ W l ws) (n : Nat) : Cells Γ W (l.take n) (ws.take n) := by
  refine ⟨by simp [h.len], fun i x hx => ?_, fun i x y hx hy => ?_⟩
  · rw [List.getElem?_take] at hx
    split at hx
    · exact h.one i x hx
    · cases hx
  · rw [List.getElem?_take] at hx hy
    split at hx
    · rename_i hi
      rw [if_pos hi] at hy
      exact h.rep i x y hx hy
    · cases hx

theorem Cells.drop {Γ : Ctx} {W : World} {l : List AV} {ws : List Value} (h : Cells Γ W l ws) (n : Nat) : Cells Γ W (l.drop n) (ws.drop n) := by
  refine ⟨by simp [h.len], fun i x hx => ?_, fun i x y hx hy => ?_⟩
  · rw [List.getElem?_drop] at hx
    exact h.one _ x hx
  · rw [List.getElem?_drop] at hx hy
    exact h.rep _ x y hx hy

theorem Cells.splice {Γ : Ctx} {W : World} {l m : List AV} {ws us : List Value} (h : Cells Γ W l ws) (k : Cells Γ W m us) (off : Nat) :
    Cells Γ W (splice l off m) (ws.take off ++ us ++ ws.drop (off + us.length)) := by
  unfold Abs.splice
  rw [k.len]
  exact ((h.take off).append k).append (h.drop _)

theorem Cells.agg {Γ : Ctx} {W : World} {l : List AV} {ws : List Value} (h : Cells Γ W l ws) : Rep Γ W (.agg l) (.agg ws.toArray) := .agg l ws h.len h.one h.rep

theorem cells_of_agg {Γ : Ctx} {W : World} {l : List AV} {v : Value} (h : Rep Γ W (.agg l) v) : ∃ ws : List Value, v = .agg ws.toArray ∧ Cells Γ W l ws := by
  obtain ⟨ws, rfl, h1, h2, h3⟩ := rep_agg h
  exact ⟨ws, rfl, h1, h2, h3⟩

theorem cells_one {v : Value} (h : v.oneCell' = true) : v.cells = #[v] := by cases v <;> simp_all [Value.oneCell', Value.cells]

theorem cellsA_rep {Γ : Ctx} {W : World} {x : AV} {l : List AV} {v : Value} (h : cellsA x = some l) (hx : Rep Γ W x v) : ∃ ws : List Value, v.cells = ws.toArray ∧ Cells Γ W l ws := by
  have key : one x = true → l = [x] → ∃ ws : List Value, v.cells = ws.toArray ∧ Cells Γ W l ws := by
    intro h1 e
    subst e
    refine ⟨[v], by rw [cells_one (hx.oneCell h1)], rfl, fun i y hy => ?_, fun i y u hy hu => ?_⟩
    · cases i with
      | zero => simp at hy; subst hy; exact h1
      | succ i => simp at hy
    · cases i with
      | zero => simp at hy hu; subst hy hu; exact hx
      | succ i => simp at hy
  cases x with
  | agg m =>
    simp only [cellsA, Option.some.injEq] at h
    subst h
    obtain ⟨ws, rfl, hc⟩ := cells_of_agg hx
    exact ⟨ws, rfl, hc⟩
  | tup m => simp [cellsA] at h
  | any => simp [cellsA] at h
  | _ =>
    simp only [cellsA, Option.some.injEq] at h
    exact key rfl h.symm

theorem zeroT_rep {P : Program} {t : TypeId} {l : List AV} (h : zeroT P t = some l) :
    ∃ z i, P.info? t = some i ∧ i.zero = some z ∧ ∀ (Γ : Ctx) (W : World), ∃ ws : List Value, z.cells = ws.toArray ∧ Cells Γ W l ws ∧ ∀ (i : Nat) x, l[i]? = some x → c1 x = true := by
  unfold zeroT at h
  split at h
  · rename_i i hi
    split at h
    · rename_i z hz
      refine ⟨z, i, hi, hz, fun Γ W => ⟨z.cells.toList, by simp, ?_, fun j x hx => ?_⟩⟩
      · obtain ⟨h1, h2⟩ := mapO_spec h
        refine ⟨h1.symm, fun j x hx => ?_, fun j x y hx hy => ?_⟩
        · obtain ⟨u, hu, hl⟩ := mapO_get h hx
          exact one_of_c1 (lit1_rep (W := W) (G := Γ.G) hl).2
        · exact .cl _ _ (lit1_rep (h2 j y x hy hx)).1
      · obtain ⟨u, hu, hl⟩ := mapO_get h hx
        exact (lit1_rep (W := W) (G := Γ.G) hl).2
    · cases h
  · cases h

theorem run_zeroA {P : Program} {W : World} {t : TypeId} {i : TypeInfo} {z : Value} (h1 : P.info? t = some i) (h2 : i.zero = some z) : (zeroValue t).run P W = .ok z W := by
  simp [zeroValue, run_typeInfoA h1, h2]

theorem foldl_set_get (off : Nat) : ∀ (vs : List Value) (k : Nat) (cells : Array Value) (i : Nat), off + k + vs.length ≤ cells.size →
    ((vs.zipIdx k).foldl (fun cs p => cs.setIfInBounds (off + p.2) p.1) cells)[i]? = if off + k ≤ i ∧ i < off + k + vs.length then vs[i - (off + k)]? else cells[i]?
  | [], k, cells, i, h => by
    simp only [List.zipIdx_nil, List.foldl_nil, List.length_nil, Nat.add_zero]
    rw [if_neg (by omega)]
  | v :: vs, k, cells, i, h => by
    simp only [List.length_cons] at h
    rw [List.zipIdx_cons, List.foldl_cons, foldl_set_get off vs (k + 1) _ i (by simp; omega)]
    simp only [List.length_cons, Array.getElem?_setIfInBounds]
    by_cases h1 : off + (k + 1) ≤ i ∧ i < off + (k + 1) + vs.length
    · rw [if_pos h1, if_pos (by omega), show i - (off + k) = (i - (off + (k + 1))) + 1 from by omega, List.getElem?_cons_succ]
    · rw [if_neg h1]
      by_cases h2 : off + k = i
      · subst h2
        rw [if_pos rfl, if_pos (by omega), if_pos (by omega)]
        simp
      · rw [if_neg h2, if_neg (by omega)]

theorem foldl_set (off : Nat) (vs : List Value) (cells : Array Value) (h : off + vs.length ≤ cells.size) :
    (vs.toArray.zipIdx.foldl (fun cs p => cs.setIfInBounds (off + p.2) p.1) cells).toList = cells.toList.take off ++ vs ++ cells.toList.drop (off + vs.length) := by
  rw [← Array.foldl_toList]
  simp only [Array.toList_zipIdx]
  apply List.ext_getElem?
  intro i
  rw [Array.getElem?_toList, foldl_set_get off vs 0 cells i (by omega)]
  simp only [Nat.add_zero, List.append_assoc]
  rw [List.getElem?_append]
  simp only [List.length_take, Array.length_toList, Nat.min_eq_left (show off ≤ cells.size by omega)]
  by_cases h1 : i < off
  · rw [if_neg (by omega), if_pos h1, List.getElem?_take, if_pos h1, Array.getElem?_toList]
  · rw [if_neg h1, List.getElem?_append]
    by_cases h2 : i - off < vs.length
    · rw [if_pos (by omega), if_pos h2]
    · rw [if_neg (by omega), if_neg h2, List.getElem?_drop, Array.getElem?_toList]
      congr 1
      omega

/-- 'fill' finds what 'fillA' finds. -/
theorem fillA_rep {Γ : Ctx} {W : World} {place place' : Nat → Option (Nat × Nat)} (hp : ∀ i p, place i = some p → place' i = some p) :
    ∀ {parts : List (Nat × AV)} {parts' : List (Nat × Value)} {l out : List AV} {cells : Array Value}, fillA place l parts = some out → Cells Γ W l cells.toList →
      parts'.length = parts.length → (∀ (j : Nat) p p', parts[j]? = some p → parts'[j]? = some p' → p'.1 = p.1 ∧ Rep Γ W p.2 p'.2) →
      ∃ cells' : Array Value, Instr.fill place' cells parts' = some cells' ∧ Cells Γ W out cells'.toList
  | [], parts', l, out, cells, h, hc, hl, _ => by
    simp only [fillA, Option.some.injEq] at h
    subst h
    have : parts' = [] := List.eq_nil_of_length_eq_zero (by simpa using hl)
    subst this
    exact ⟨cells, rfl, hc⟩
  | (i, v) :: parts, [], l, out, cells, h, hc, hl, _ => by simp at hl
  | (i, v) :: parts, (i', v') :: parts', l, out, cells, h, hc, hl, hall => by
    obtain ⟨e1, hr⟩ := hall 0 (i, v) (i', v') rfl rfl
    simp only at e1 hr
    subst e1
    simp only [fillA] at h
    split at h
    · cases h
    · rename_i off size hpl
      split at h
      · cases h
      · rename_i vs hvs
        split at h
        · rename_i hsz
          obtain ⟨ws, hw, hcw⟩ := cellsA_rep hvs hr
          have hlw : ws.length = vs.length := hcw.len
          have hlc : cells.size = l.length := by rw [← Array.length_toList, hc.len]
          have hfold := foldl_set off ws cells (by omega)
          have hcell : Cells Γ W (splice l off vs) (ws.toArray.zipIdx.foldl (fun cs p => cs.setIfInBounds (off + p.2) p.1) cells).toList := by
            rw [hfold]
            exact hc.splice hcw off
          obtain ⟨cells', h1, h2⟩ := fillA_rep hp h hcell (by simpa using hl) (fun j p p' hj hj' => hall (j + 1) p p' (by simpa using hj) (by simpa using hj'))
          refine ⟨cells', ?_, h2⟩
          simp only [Instr.fill, hp _ _ hpl, hw, List.size_toArray]
          rw [if_neg (by simp; omega)]
          exact h1
        · cases h

end Go.Abs
