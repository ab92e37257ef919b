/- Small laws: literals, types, loads, parts; what the interpreter finds is what the model finds. -/
import Derived.Test.YthiogecmahdmcaaGreatDoorRfxRel
set_option linter.unusedVariables false
set_option linter.unusedSimpArgs false
namespace Go.Abs
open Go.RowKit

theorem mapO_spec {α β : Type} {f : α → Option β} : ∀ {l : List α} {ys : List β}, mapO f l = some ys →
    ys.length = l.length ∧ ∀ (i : Nat) x y, l[i]? = some x → ys[i]? = some y → f x = some y
  | [], ys, h => by
    simp only [mapO, Option.some.injEq] at h
    subst h
    exact ⟨rfl, fun i x y hx => by simp at hx⟩
  | z :: l, ys, h => by
    simp only [mapO] at h
    split at h
    · cases h
    · rename_i y1 hy1
      split at h
      · cases h
      · rename_i ys1 hys1
        injection h with h
        subst h
        obtain ⟨h1, h2⟩ := mapO_spec hys1
        refine ⟨by simp [h1], fun i x y hx hy => ?_⟩
        cases i with
        | zero => simp at hx hy; subst hx hy; exact hy1
        | succ i => exact h2 i x y (by simpa using hx) (by simpa using hy)

structure ActRel (Γ : Ctx) (W : World) (T : List AV) (a : Act) : Prop where
  len : T.length = a.tmps.size
  rep : ∀ t, Rep Γ W (T.getD t undefA) (a.tmps.getD t undef)

theorem ActRel.ext {Γ Γ' : Ctx} {W W' : World} {T : List AV} {a : Act} (h : ActRel Γ W T a) (e : Ext Γ W Γ' W') : ActRel Γ' W' T a :=
  ⟨h.len, fun t => (h.rep t).ext e⟩

theorem ActRel.put {Γ : Ctx} {W : World} {T : List AV} {a : Act} (h : ActRel Γ W T a) (dst : Option Tmp) {v : AV} {v' : Value} (hv : Rep Γ W v v') :
    ActRel Γ W (putA T dst v) (a.put dst v') := by
  cases dst with
  | none => exact h
  | some d =>
    refine ⟨by simp [putA, Act.put, h.len], fun t => ?_⟩
    simp only [putA, Act.put, List.getD_eq_getElem?_getD, List.getElem?_set, Array.getD_eq_getD_getElem?, Array.getElem?_setIfInBounds]
    by_cases hd : d = t
    · subst hd
      by_cases hl : d < T.length
      · have hl' : d < a.tmps.size := by rw [← h.len]; exact hl
        simpa [hl, hl'] using hv
      · have hl' : ¬ d < a.tmps.size := by rw [← h.len]; exact hl
        simp only [hl, hl', if_true, if_false, Option.getD_none]
        exact Rep.undef Γ W
    · simp only [hd, if_false]
      have := h.rep t
      simpa [List.getD_eq_getElem?_getD, Array.getD_eq_getD_getElem?] using this

theorem lit1_rep {W : World} {G : Nat → Nat → Prop} {v : Value} {x : AV} (h : lit1 v = some x) : RepC W G x v ∧ c1 x = true := by
  unfold lit1 at h
  split at h <;> (first | (injection h with h; subst h) | cases h) <;> refine ⟨?_, rfl⟩ <;> constructor

theorem mapO_get {α β : Type} {f : α → Option β} {l : List α} {ys : List β} (h : mapO f l = some ys) {i : Nat} {y : β} (hy : ys[i]? = some y) : ∃ x, l[i]? = some x ∧ f x = some y := by
  obtain ⟨h1, h2⟩ := mapO_spec h
  have hi : i < l.length := by rw [← h1]; exact (List.getElem?_eq_some_iff.1 hy).1
  exact ⟨l[i], List.getElem?_eq_getElem hi, h2 i _ _ (List.getElem?_eq_getElem hi) hy⟩

theorem litV_rep {W : World} {G : Nat → Nat → Prop} {v : Value} {x : AV} (h : litV v = some x) : (RepC W G x v) ∨ (x = undefA ∧ v = undef) := by
  unfold litV at h
  split at h
  · rename_i cs
    rw [Option.map_eq_some_iff] at h
    obtain ⟨l, hl, rfl⟩ := h
    obtain ⟨h1, h2⟩ := mapO_spec hl
    refine .inl ?_
    have : Value.agg cs = .agg cs.toList.toArray := by simp
    rw [this]
    refine .agg l cs.toList h1.symm (fun i x hx => ?_) (fun i x y hx hy => ?_)
    · obtain ⟨z, hz, hzz⟩ := mapO_get hl hx
      exact (lit1_rep (W := W) (G := G) hzz).2
    · exact (lit1_rep (h2 i y x hy hx)).1
  · rename_i cs
    split at h
    · rename_i he
      injection h with h
      refine .inr ⟨h.symm, ?_⟩
      have : cs = #[] := by simpa using he
      subst this
      rfl
    · cases h
  · exact .inl (lit1_rep h).1

theorem evA_rep {Γ : Ctx} {W : World} {T : List AV} {a : Act} (R : ActRel Γ W T a) {x : Operand} {v : AV} (h : evA T x = some v) : Rep Γ W v (a.eval x) := by
  cases x with
  | tmp t =>
    simp only [evA, Option.some.injEq] at h
    subst h
    exact R.rep t
  | const c =>
    simp only [evA] at h
    rcases litV_rep (W := W) (G := Γ.G) h with h | ⟨rfl, rfl⟩
    · exact .cl _ _ h
    · exact Rep.undef Γ W
  | global g => simp [evA] at h
  | func f =>
    simp only [evA, Option.some.injEq] at h
    subst h
    exact .cl _ _ (.fn f)

section types
variable {P : Program} {W : World} {t : TypeId}
theorem run_underlyingA {d : TypeDesc} (h : P.underlying t = some d) : (underlying t).run P W = .ok d W := by
  simp [underlying, h]
theorem run_isAggA {b : Bool} (h : isAggT P t = some b) : (isAgg t).run P W = .ok b W := by
  unfold isAggT at h
  unfold isAgg
  split at h
  · rename_i f hu
    injection h with h
    subst h
    simp [run_underlyingA hu]
  · rename_i n e hu
    injection h with h
    subst h
    simp [run_underlyingA hu]
  · rename_i d hs ha hu
    injection h with h
    subst h
    rw [Sem.run_bind, run_underlyingA hu, Result.andThen_ok]
    cases hd : d <;> first | rfl | (subst hd; first | exact (hs _ rfl).elim | exact (ha _ _ rfl).elim)
  · cases h
theorem run_typeInfoA {i : TypeInfo} (h : P.info? t = some i) : (typeInfo t).run P W = .ok i W := by
  simp [typeInfo, h]
theorem run_sizeOfA {n : Nat} (h : sizeT P t = some n) : (sizeOf t).run P W = .ok n W := by
  unfold sizeT at h
  rw [Option.map_eq_some_iff] at h
  obtain ⟨i, hi, rfl⟩ := h
  simp [sizeOf, run_typeInfoA hi]
end types

theorem run_loadCellsA {P : Program} {W : World} {a : Addr} {vs : Nat → Value} : ∀ (n i : Nat) (acc : Array Value),
    (∀ j, j < n → W.cell? (a.add (i + j)) = some (vs (i + j))) →
    (loadCellsFrom a i n acc).run P W = .ok (acc ++ ((List.range n).map fun j => vs (i + j)).toArray) W
  | 0, i, acc, h => by simp [loadCellsFrom]
  | n + 1, i, acc, h => by
    have h0 := h 0 (by omega)
    simp only [Nat.add_zero] at h0
    simp only [loadCellsFrom, Sem.run_bind, run_load, h0, Result.andThen_ok]
    rw [run_loadCellsA n (i + 1) (acc.push (vs i)) (fun j hj => by have := h (j + 1) (by omega); rwa [show i + (j + 1) = i + 1 + j from by omega] at this)]
    congr 1
    rw [List.range_succ_eq_map]
    apply Array.ext'
    simp only [Array.toList_append, Array.toList_push, List.map_cons, List.map_map, Nat.add_zero, List.append_assoc, List.cons_append, List.nil_append]
    congr 2
    apply List.map_congr_left
    intro j _
    simp only [Function.comp]
    congr 1
    omega

/-- The cells of a list that lie in the world from an address on. -/
def LiesAt (Γ : Ctx) (W : World) (l : List AV) (a : Addr) (vs : Nat → Value) : Prop :=
  ∀ (i : Nat) x, l[i]? = some x → one x = true ∧ W.cell? (a.add i) = some (vs i) ∧ Rep Γ W x (vs i)

theorem LiesAt.drop {Γ : Ctx} {W : World} {l : List AV} {a : Addr} {vs : Nat → Value} (h : LiesAt Γ W l a vs) (hs : l ≠ [] → a.spot = none) (k : Nat) :
    LiesAt Γ W (l.drop k) (a.add k) (fun i => vs (k + i)) := by
  intro i x hx
  rw [List.getElem?_drop] at hx
  have hne : l ≠ [] := by rintro rfl; simp at hx
  obtain ⟨h1, h2, h3⟩ := h _ x hx
  rw [add_eq (hs hne)] at h2
  refine ⟨h1, ?_, h3⟩
  rw [add_eq (hs hne), add_eq rfl]
  simpa [Nat.add_assoc] using h2

theorem loadL_rep {P : Program} {Γ : Ctx} {W : World} {t : TypeId} {l : List AV} {v : AV} {a : Addr} {vs : Nat → Value} (h : loadL P t l = some v) (hl : LiesAt Γ W l a vs) :
    ∃ v', (loadVar t a).run P W = .ok v' W ∧ Rep Γ W v v' := by
  unfold loadL at h
  split at h
  · rename_i hagg
    split at h
    · rename_i n hn
      split at h
      · rename_i hle
        injection h with h
        subst h
        have hc : ∀ j, j < n → W.cell? (a.add (0 + j)) = some (vs (0 + j)) := by
          intro j hj
          rw [Nat.zero_add]
          exact (hl j l[j] (List.getElem?_eq_getElem (by omega))).2.1
        refine ⟨.agg ((List.range n).map fun j => vs j).toArray, ?_, ?_⟩
        · unfold loadVar loadCells
          simp only [Sem.run_bind, run_isAggA hagg, Result.andThen_ok, if_true, run_sizeOfA hn, run_loadCellsA n 0 #[] hc, Sem.run_pure]
          simp
        · refine .agg _ _ (by simp; omega) (fun i x hx => ?_) (fun i x y hx hy => ?_)
          · rw [List.getElem?_take] at hx
            split at hx
            · exact (hl i x hx).1
            · cases hx
          · rw [List.getElem?_take] at hx
            split at hx
            · rename_i hi
              rw [List.getElem?_map, List.getElem?_range hi] at hy
              simp at hy
              subst hy
              exact (hl i x hx).2.2
            · cases hx
      · cases h
    · cases h
  · rename_i hagg
    rw [List.head?_eq_getElem?] at h
    obtain ⟨h1, h2, h3⟩ := hl 0 v h
    refine ⟨vs 0, ?_, h3⟩
    unfold loadVar
    have : a.add 0 = a := by simp [Addr.add]
    rw [this] at h2
    simp [run_isAggA hagg, h2]
  · cases h

theorem partL_rep {P : Program} {Γ : Ctx} {W : World} {t : TypeId} {l : List AV} {ws : List Value} {off : Nat} {v : AV} (h : partL P t l off = some v)
    (h1 : ws.length = l.length) (h2 : ∀ (i : Nat) x, l[i]? = some x → one x = true) (h3 : ∀ (i : Nat) x y, l[i]? = some x → ws[i]? = some y → Rep Γ W x y) :
    ∃ v', (part t ws.toArray off).run P W = .ok v' W ∧ Rep Γ W v v' ∧ (v' = .agg ((ws.drop off).take ((sizeT P t).getD 0)).toArray ∨ ws[off]? = some v') := by
  unfold partL at h
  split at h
  · rename_i hagg
    split at h
    · rename_i n hn
      split at h
      · rename_i hle
        injection h with h
        subst h
        refine ⟨.agg ((ws.drop off).take n).toArray, ?_, ?_, .inl (by rw [hn]; rfl)⟩
        · unfold part
          simp only [Sem.run_bind, run_isAggA hagg, Result.andThen_ok, if_true, run_sizeOfA hn, Sem.run_pure]
          congr 2
          apply Array.ext'
          simp [List.extract_eq_take_drop]
        · refine .agg _ _ (by simp [h1]) (fun i x hx => ?_) (fun i x y hx hy => ?_)
          · rw [List.getElem?_take] at hx
            split at hx
            · rw [List.getElem?_drop] at hx; exact h2 _ x hx
            · cases hx
          · rw [List.getElem?_take] at hx hy
            split at hx
            · rename_i hi
              rw [if_pos hi] at hy
              rw [List.getElem?_drop] at hx hy
              exact h3 _ x y hx hy
            · cases hx
      · cases h
    · cases h
  · rename_i hagg
    have hlt : off < ws.length := by rw [h1]; exact (List.getElem?_eq_some_iff.1 h).1
    have hw : ws[off]? = some ws[off] := List.getElem?_eq_getElem hlt
    refine ⟨ws[off], ?_, h3 off v _ h hw, .inr hw⟩
    unfold part
    simp [run_isAggA hagg, hlt]
  · cases h

end Go.Abs
