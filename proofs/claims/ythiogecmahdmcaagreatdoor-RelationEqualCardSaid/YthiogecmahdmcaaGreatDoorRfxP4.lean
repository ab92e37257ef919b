/- Operations that want no heap, one by one: literals of structs, slices, indexes, fields, len, max. -/
import Derived.Test.YthiogecmahdmcaaGreatDoorRfxP3
set_option linter.unusedVariables false
set_option linter.unusedSimpArgs false
namespace Go.Abs
open Go.RowKit

section
variable {P : Program} {Γ : Ctx} {W : World}

theorem run_mapMA {α β : Type} {g : α → Sem β} {f : α → β} : ∀ (l : List α), (∀ x ∈ l, (g x).run P W = .ok (f x) W) → (l.mapM g).run P W = .ok (l.map f) W
  | [], _ => by simp
  | x :: l, h => by
    simp only [List.mapM_cons, Sem.run_bind, h x (by simp), Result.andThen_ok, run_mapMA l (fun y hy => h y (by simp [hy])), Sem.run_pure, List.map_cons]

theorem buildP_rep {t : TypeId} {ps : List (Nat × AV)} {parts' : Array (Nat × Value)} {v : AV} (h : buildP P t ps = some v)
    (hl : parts'.toList.length = ps.length) (hall : ∀ (j : Nat) p p', ps[j]? = some p → parts'.toList[j]? = some p' → p'.1 = p.1 ∧ Rep Γ W p.2 p'.2) :
    ∃ v', (Instr.build t parts').run P W = .ok v' W ∧ Rep Γ W v v' := by
  unfold buildP at h
  split at h
  · cases h
  · rename_i z hz
    obtain ⟨zv, i, hi, hzv, hcells⟩ := zeroT_rep hz
    obtain ⟨ws, hws, hc, _⟩ := hcells Γ W
    have hrz := run_zeroA (W := W) hi hzv
    split at h
    · rename_i fs hu
      split at h
      · rename_i hfs
        rw [Option.map_eq_some_iff] at h
        obtain ⟨out, hout, rfl⟩ := h
        have hpl : (fs.mapM fun f => do pure (f.offset, ← sizeOf f.type) : Sem (Array (Nat × Nat))).run P W = .ok (fs.map fun f => (f.offset, (sizeT P f.type).getD 0)) W := by
          rw [Array.mapM_eq_mapM_toList, Sem.run_map, run_mapMA (f := fun f : Field => (f.offset, (sizeT P f.type).getD 0))]
          · simp only [Result.andThen_ok]
            congr 1
            apply Array.ext'
            simp
          · intro f hf
            have : (sizeT P f.type).isSome := by
              have := Array.all_eq_true'.1 hfs f (by simpa using hf)
              simpa using this
            obtain ⟨n, hn⟩ := Option.isSome_iff_exists.1 this
            simp [run_sizeOfA hn, hn]
        obtain ⟨cells', h1, h2⟩ := fillA_rep (place' := fun i => (fs.map fun f => (f.offset, (sizeT P f.type).getD 0))[i]?) (cells := zv.cells) (fun j p hp => by
          unfold placeOf at hp
          split at hp
          · rename_i f hf
            rw [Option.map_eq_some_iff] at hp
            obtain ⟨n, hn, rfl⟩ := hp
            simp [hf, hn]
          · cases hp) hout (by rw [hws]; simpa using hc) hl hall
        refine ⟨.agg cells', ?_, ?_⟩
        · unfold Instr.build
          simp only [Sem.run_bind, hrz, run_underlyingA hu, Result.andThen_ok, hpl, h1, Sem.run_pure]
        · have := h2.agg
          simpa using this
      · cases h
    · rename_i n elem hu
      split at h
      · rename_i size hsz
        rw [Option.map_eq_some_iff] at h
        obtain ⟨out, hout, rfl⟩ := h
        obtain ⟨cells', h1, h2⟩ := fillA_rep (place' := fun i => some (i * size, size)) (cells := zv.cells) (fun j p hp => hp) hout (by rw [hws]; simpa using hc) hl hall
        refine ⟨.agg cells', ?_, ?_⟩
        · unfold Instr.build
          simp only [Sem.run_bind, hrz, run_underlyingA hu, Result.andThen_ok, run_sizeOfA hsz, h1, Sem.run_pure]
        · have := h2.agg
          simpa using this
      · cases h
    · cases h

/-- A bound of a slice expression, abstract and the model's. -/
def BoundRel (Γ : Ctx) (W : World) : Option (Option AV) → Option Value → Prop
  | none, none => True
  | some x, some v => ∀ y, x = some y → Rep Γ W y v
  | _, _ => False

theorem bound_rep {x : Option (Option AV)} {v : Option Value} {dflt most most' r : Nat} (h : bound x dflt most = some r) (hx : BoundRel Γ W x v) (hm : most ≤ most') (code : BoundsCode) :
    (match v with | some v => Instr.sliceBound v most' code | none => pure dflt : Sem Nat).run P W = .ok r W := by
  unfold bound at h
  split at h
  · injection h with h
    subst h
    cases v with
    | none => rfl
    | some v => exact hx.elim
  · rename_i k i
    split at h
    · rename_i hi
      injection h with h
      subst h
      cases v with
      | none => exact hx.elim
      | some v =>
        obtain rfl := rep_int (hx _ rfl)
        have : 0 ≤ i ∧ i ≤ (most' : Int) := ⟨hi.1, by omega⟩
        simp [Instr.sliceBound, asIntOf, this]
    · cases h
  · cases h

theorem bound_le {x : Option (Option AV)} {dflt most r : Nat} (h : bound x dflt most = some r) (hd : dflt ≤ most) : r ≤ most := by
  unfold bound at h
  split at h
  · injection h with h
    omega
  · split at h
    · rename_i hi
      injection h with h
      omega
    · cases h
  · cases h

theorem run_boundsA {lo hi : Option (Option AV)} {lo' hi' : Option Value} {len cap most h l : Nat} (hh : bound hi len most = some h) (hl : bound lo 0 h = some l)
    (rl : BoundRel Γ W lo lo') (rh : BoundRel Γ W hi hi') (hm : most ≤ cap) (b : Bool) :
    (Instr.sliceBounds b len cap lo' hi' none).run P W = .ok (l, h, cap) W := by
  have e1 := fun code => bound_rep (P := P) hh rh hm code
  have e2 := fun code => bound_rep (P := P) hl rl (Nat.le_refl h) code
  unfold Instr.sliceBounds
  cases hi' <;> cases lo' <;> simp_all

theorem sliceP_rep {t : TypeId} {x v : AV} {vx : Value} {lo hi mx : Option (Option AV)} {lo' hi' mx' : Option Value} (h : sliceP P t x lo hi mx = some v) (hx : Rep Γ W x vx)
    (rl : BoundRel Γ W lo lo') (rh : BoundRel Γ W hi hi') (rm : BoundRel Γ W mx mx') :
    ∃ v', (Instr.sliceAt t vx lo' hi' mx').run P W = .ok v' W ∧ Rep Γ W v v' := by
  unfold sliceP at h
  split at h
  · rename_i s hu
    have hmx : mx' = none := by cases mx' <;> first | rfl | exact rm.elim
    subst hmx
    obtain rfl := rep_str hx
    split at h
    · cases h
    · rename_i h' hh
      split at h
      · cases h
      · rename_i l' hl
        injection h with h
        subst h
        have e := run_boundsA (P := P) hh hl rl rh (Nat.le_refl _) false
        refine ⟨.string (s.extract l' h'), ?_, .cl _ _ (.str _)⟩
        simp [Instr.sliceAt, Instr.slice, run_underlyingA hu, e]
  · rename_i elem hu
    have hmx : mx' = none := by cases mx' <;> first | rfl | exact rm.elim
    subst hmx
    obtain rfl := rep_nilsl hx
    split at h
    · cases h
    · rename_i h' hh
      split at h
      · rename_i l' sz hl hsz
        injection h with h
        subst h
        have e := run_boundsA (P := P) hh hl rl rh (Nat.le_refl _) true
        have h0 : h' = 0 := by have := bound_le hh (Nat.le_refl _); omega
        have l0 : l' = 0 := by have := bound_le hl (Nat.zero_le _); omega
        subst h0 l0
        refine ⟨.slice none 0 0, ?_, .cl _ _ .nilsl⟩
        simp [Instr.sliceAt, Instr.slice, run_underlyingA hu, e, run_sizeOfA hsz]
      · cases h
  · rename_i elem tt n l hu
    have hmx : mx' = none := by cases mx' <;> first | rfl | exact rm.elim
    subst hmx
    obtain ⟨a, cap, vs, rfl, hn, ht, hc, hr⟩ := rep_imm hx
    split at h
    · cases h
    · rename_i h' hh
      split at h
      · rename_i l' sz hl hsz
        split at h
        · rename_i hle
          injection h with h
          subst h
          have e := run_boundsA (P := P) hh hl rl rh hn true
          have h0 : h' ≤ n := bound_le hh (Nat.le_refl _)
          have l0 : l' ≤ h' := bound_le hl (Nat.zero_le _)
          refine ⟨.slice (some (if cap = l' then a else a.add (l' * sz))) (h' - l') (cap - l'), ?_, .cl _ _ ?_⟩
          · simp only [Instr.sliceAt, Instr.slice, Sem.run_bind, run_underlyingA hu, Result.andThen_ok, e, run_sizeOfA hsz, Sem.run_pure]
            congr 2
            split <;> rfl
          · have hget : ∀ (i : Nat) x, ((l.take (h' * sz)).drop (l' * sz))[i]? = some x → l[l' * sz + i]? = some x := by
              intro i x hi
              rw [List.getElem?_drop, List.getElem?_take] at hi
              split at hi
              · exact hi
              · cases hi
            by_cases hcl : cap = l'
            · have hlh : l' = h' := by omega
              have hnil : (l.take (h' * sz)).drop (l' * sz) = [] := by
                rw [hlh]
                apply List.drop_eq_nil_of_le
                rw [List.length_take]
                exact Nat.min_le_left _ _
              rw [hnil]
              refine .imm _ _ _ _ _ (fun _ => undef) (by omega) (fun hh => ?_) (fun i x hx => by simp at hx) (fun i x hx => by simp at hx)
              simp only [Bool.and_eq_true, beq_iff_eq] at hh
              have := ht hh.1
              omega
            · rw [if_neg hcl]
              refine .imm _ _ _ _ _ (fun i => vs (l' * sz + i)) (by omega) (fun hh => ?_) (fun i x hi => ?_) (fun i x hi => hr _ x (hget i x hi))
              · simp only [Bool.and_eq_true, beq_iff_eq] at hh
                have := ht hh.1
                omega
              · obtain ⟨c1, c2, c3, c4⟩ := hc _ x (hget i x hi)
                rw [add_eq c2]
                exact ⟨c1, rfl, by simpa [Nat.add_assoc] using c3, by simpa [Nat.add_assoc] using c4⟩
        · cases h
      · cases h
  · rename_i elem b ver off n sz hu
    have hmx : mx' = none := by cases mx' <;> first | rfl | exact rm.elim
    subst hmx
    obtain ⟨a, cap, rfl, hb, hn, hg⟩ := rep_own hx
    split at h
    · cases h
    · rename_i h' hh
      split at h
      · rename_i l' sz' hl hsz
        split at h
        · rename_i hss
          subst hss
          have h0 : h' ≤ n := bound_le hh (Nat.le_refl _)
          have l0 : l' ≤ h' := bound_le hl (Nat.zero_le _)
          have hrun : (Instr.sliceAt t (.slice (some a) n cap) lo' hi' none).run P W = .ok (.slice (some (if cap = l' then a else a.add (l' * sz))) (h' - l') (cap - l')) W := by
            have e := run_boundsA (P := P) hh hl rl rh hn true
            simp only [Instr.sliceAt, Instr.slice, Sem.run_bind, run_underlyingA hu, Result.andThen_ok, e, run_sizeOfA hsz, Sem.run_pure]
            congr 2
            split <;> rfl
          split at h
          · rename_i hlh
            subst hlh
            split at h
            · rename_i hl0
              injection h with h
              subst h hl0
              refine ⟨_, hrun, ?_⟩
              have : (if cap = 0 then a else a.add (0 * sz)) = a := by
                split
                · rfl
                · simp [Addr.add]
              rw [this]
              exact .own _ _ _ _ _ _ _ hb (Nat.zero_le _) hg
            · rename_i hl0
              injection h with h
              subst h
              refine ⟨_, hrun, .cl _ _ ?_⟩
              rw [Nat.sub_self]
              exact .imm _ _ _ _ _ (fun _ => undef) (Nat.zero_le _) (fun hh => by cases hh) (fun i x hx => by simp at hx) (fun i x hx => by simp at hx)
          · rename_i hlh
            injection h with h
            subst h
            refine ⟨_, hrun, .own _ _ _ _ _ _ _ hb (by omega) (fun q hq => ?_)⟩
            obtain ⟨h1, h2⟩ := hg q hq
            refine ⟨h1, fun hv => ?_⟩
            obtain ⟨e1, e2, e3⟩ := h2 hv
            have hc : cap = l' + (cap - l') := by omega
            have hmul : cap * sz = l' * sz + (cap - l') * sz := by rw [← Nat.add_mul, ← hc]
            rw [if_neg (by omega), e1, add_eq rfl]
            refine ⟨by simp [Nat.add_assoc], by omega, by omega⟩
        · cases h
      · cases h
  · rename_i elem k m hu
    obtain ⟨vm, rfl⟩ : ∃ vm, mx' = some vm := by cases mx' <;> first | exact ⟨_, rfl⟩ | exact rm.elim
    obtain rfl := rep_int (rm _ rfl)
    split at h
    · rename_i k2 sz tt n l hsz
      split at h
      · rename_i hm
        injection h with h
        subst h hm
        have hlo : lo' = none := by cases lo' <;> first | rfl | exact rl.elim
        subst hlo
        obtain ⟨vh, rfl⟩ : ∃ vh, hi' = some vh := by cases hi' <;> first | exact ⟨_, rfl⟩ | exact rh.elim
        obtain rfl := rep_int (rh _ rfl)
        obtain ⟨a, cap, vs, rfl, _⟩ := rep_imm hx
        refine ⟨.slice (some a) 0 0, ?_, .cl _ _ (.imm _ _ _ _ _ (fun _ => undef) (Nat.le_refl _) (fun _ => rfl) (fun i x hx => by simp at hx) (fun i x hx => by simp at hx))⟩
        simp [Instr.sliceAt, Instr.slice, run_underlyingA hu, Instr.sliceBounds, Instr.sliceBound, asIntOf, run_sizeOfA hsz]
      · cases h
    · rename_i k2 sz b ver off n sz2 hsz
      split at h
      · rename_i hm
        injection h with h
        subst h hm
        have hlo : lo' = none := by cases lo' <;> first | rfl | exact rl.elim
        subst hlo
        obtain ⟨vh, rfl⟩ : ∃ vh, hi' = some vh := by cases hi' <;> first | exact ⟨_, rfl⟩ | exact rh.elim
        obtain rfl := rep_int (rh _ rfl)
        obtain ⟨a, cap, rfl, _⟩ := rep_own hx
        refine ⟨.slice (some a) 0 0, ?_, .cl _ _ (.imm _ _ _ _ _ (fun _ => undef) (Nat.le_refl _) (fun _ => rfl) (fun i x hx => by simp at hx) (fun i x hx => by simp at hx))⟩
        simp [Instr.sliceAt, Instr.slice, run_underlyingA hu, Instr.sliceBounds, Instr.sliceBound, asIntOf, run_sizeOfA hsz]
      · cases h
    · rename_i k2 sz hsz
      split at h
      · rename_i hm
        injection h with h
        subst h hm
        have hlo : lo' = none := by cases lo' <;> first | rfl | exact rl.elim
        subst hlo
        obtain ⟨vh, rfl⟩ : ∃ vh, hi' = some vh := by cases hi' <;> first | exact ⟨_, rfl⟩ | exact rh.elim
        obtain rfl := rep_int (rh _ rfl)
        obtain rfl := rep_nilsl hx
        refine ⟨.slice none 0 0, ?_, .cl _ _ .nilsl⟩
        simp [Instr.sliceAt, Instr.slice, run_underlyingA hu, Instr.sliceBounds, Instr.sliceBound, asIntOf, run_sizeOfA hsz]
      · cases h
    · cases h
  · cases h

end
end Go.Abs
