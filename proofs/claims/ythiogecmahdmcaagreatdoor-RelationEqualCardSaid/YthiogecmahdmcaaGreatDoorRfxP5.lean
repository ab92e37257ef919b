/- Operations that want no heap, together. -/
import Derived.Test.YthiogecmahdmcaaGreatDoorRfxP4
set_option linter.unusedVariables false
set_option linter.unusedSimpArgs false
namespace Go.Abs
open Go.RowKit

section
variable {P : Program} {Γ : Ctx} {W : World}

theorem iptr_drop {l : List AV} {a : Addr} {vs : Nat → Value} {n k : Nat} (h1 : ∀ (i : Nat) x, l[i]? = some x → c1 x = true ∧ a.spot = none ∧ Γ.G a.block (a.off + i) ∧ W.cell? ⟨a.block, a.off + i, none⟩ = some (vs i))
    (h2 : ∀ (i : Nat) x, l[i]? = some x → RepC W Γ.G x (vs i)) : Rep Γ W (.iptr (l.drop k)) (.pointer (some (a.add k))) := by
  refine .cl _ _ (.iptr _ _ (fun i => vs (k + i)) (fun i x hx => ?_) (fun i x hx => ?_))
  · rw [List.getElem?_drop] at hx
    obtain ⟨e1, e2, e3, e4⟩ := h1 _ x hx
    rw [add_eq e2]
    exact ⟨e1, rfl, by simpa [Nat.add_assoc] using e3, by simpa [Nat.add_assoc] using e4⟩
  · rw [List.getElem?_drop] at hx
    exact h2 _ x hx

theorem indexAddrP_rep {t : TypeId} {x i v : AV} {vx vi : Value} (h : indexAddrP P t x i = some v) (hx : Rep Γ W x vx) (hi : Rep Γ W i vi) :
    ∃ v', (Instr.indexAt t vx vi).run P W = .ok v' W ∧ Rep Γ W v v' := by
  unfold indexAddrP at h
  split at h
  · rename_i elem tt n l k i hu
    obtain rfl := rep_int hi
    obtain ⟨a, cap, vs, rfl, _, _, h1, h2⟩ := rep_imm hx
    split at h
    · rename_i hlt
      split at h
      · rename_i sz hsz
        injection h with h
        subst h
        exact ⟨.pointer (some (a.add (i.toNat * sz))), by simp [Instr.indexAt, asIntOf, run_underlyingA hu, hlt, run_sizeOfA hsz], iptr_drop (n := n) h1 h2⟩
      · cases h
    · cases h
  · rename_i elem b ver off n sz k i hu
    obtain rfl := rep_int hi
    obtain ⟨a, cap, rfl, hb, hn, hg⟩ := rep_own hx
    split at h
    · rename_i hlt
      split at h
      · rename_i sz' hsz
        split at h
        · rename_i hss
          subst hss
          injection h with h
          subst h
          refine ⟨.pointer (some (a.add (i.toNat * sz))), by simp [Instr.indexAt, asIntOf, run_underlyingA hu, hlt, run_sizeOfA hsz], .ptr _ _ _ _ hb (fun q hq => ⟨(hg q hq).1, fun hv => ?_⟩)⟩
          rw [((hg q hq).2 hv).1, add_eq rfl]
          simp [Nat.add_assoc]
        · cases h
      · cases h
    · cases h
  · rename_i n elem b ver off k i hu
    obtain rfl := rep_int hi
    obtain ⟨a, rfl, hb, hg⟩ := rep_ptr hx
    split at h
    · rename_i hlt
      split at h
      · rename_i sz hsz
        injection h with h
        subst h
        refine ⟨.pointer (some (a.add (i.toNat * sz))), by simp [Instr.indexAt, asIntOf, run_underlyingA hu, Instr.sureAddr, hlt, run_sizeOfA hsz], .ptr _ _ _ _ hb (fun q hq => ⟨(hg q hq).1, fun hv => ?_⟩)⟩
        rw [(hg q hq).2 hv, add_eq rfl]
        simp [Nat.add_assoc]
      · cases h
    · cases h
  · rename_i n elem l k i hu
    obtain rfl := rep_int hi
    obtain ⟨a, vs, rfl, h1, h2⟩ := rep_iptr hx
    split at h
    · rename_i hlt
      split at h
      · rename_i sz hsz
        injection h with h
        subst h
        exact ⟨.pointer (some (a.add (i.toNat * sz))), by simp [Instr.indexAt, asIntOf, run_underlyingA hu, Instr.sureAddr, hlt, run_sizeOfA hsz], iptr_drop (n := n) h1 h2⟩
      · cases h
    · cases h
  · cases h

theorem indexP_rep {t : TypeId} {x i v : AV} {vx vi : Value} (h : indexP P t x i = some v) (hx : Rep Γ W x vx) (hi : Rep Γ W i vi) :
    ∃ v', (Instr.index t vx vi).run P W = .ok v' W ∧ Rep Γ W v v' := by
  unfold indexP at h
  split at h
  · rename_i s k i hu
    obtain rfl := rep_int hi
    obtain rfl := rep_str hx
    split at h
    · rename_i h0
      split at h
      · rename_i b hb
        injection h with h
        subst h
        have : s[i.toNat]? = some b := by
          have e : s[i.toNat]? = s.data.toList[i.toNat]? := by
            rw [Array.getElem?_toList]
            rfl
          rw [e]
          exact hb
        exact ⟨.int .u8 b.toNat, by simp [Instr.index, asIntOf, run_underlyingA hu, h0, this], .cl _ _ (.int _ _)⟩
      · cases h
    · cases h
  · rename_i n elem l k i hu
    obtain rfl := rep_int hi
    obtain ⟨ws, rfl, h1, h2, h3⟩ := rep_agg hx
    split at h
    · rename_i hlt
      split at h
      · rename_i sz hsz
        obtain ⟨v', hr, hv, _⟩ := partL_rep h h1 h2 h3
        exact ⟨v', by simp [Instr.index, asIntOf, run_underlyingA hu, hlt, run_sizeOfA hsz, hr], hv⟩
      · cases h
    · cases h
  · cases h

theorem fieldOf_run {s : TypeId} {f : Nat} {fd : Field} (h : fieldOf P s f = some fd) : ∃ fs, P.underlying s = some (.struct fs) ∧ fs[f]? = some fd := by
  unfold fieldOf at h
  split at h
  · rename_i fs hu
    exact ⟨fs, hu, h⟩
  · cases h

theorem foldO_rep {f : AV → AV → Option AV} {g : Value → Value → Sem Value}
    (hf : ∀ x y z vx vy, f x y = some z → Rep Γ W x vx → Rep Γ W y vy → ∃ v', (g vx vy).run P W = .ok v' W ∧ Rep Γ W z v') :
    ∀ (l : List AV) (ws : List Value) (x z : AV) (vx : Value), foldO f x l = some z → Rep Γ W x vx → ws.length = l.length → (∀ (i : Nat) y u, l[i]? = some y → ws[i]? = some u → Rep Γ W y u) →
      ∃ v', (ws.foldlM g vx).run P W = .ok v' W ∧ Rep Γ W z v'
  | [], ws, x, z, vx, h, hx, hl, _ => by
    simp only [foldO, Option.some.injEq] at h
    subst h
    have : ws = [] := List.eq_nil_of_length_eq_zero (by simpa using hl)
    subst this
    exact ⟨vx, by simp, hx⟩
  | y :: l, [], x, z, vx, h, hx, hl, _ => by simp at hl
  | y :: l, u :: ws, x, z, vx, h, hx, hl, hall => by
    simp only [foldO] at h
    split at h
    · rename_i b hb
      obtain ⟨vb, h1, h2⟩ := hf x y b vx u hb hx (hall 0 y u rfl rfl)
      obtain ⟨v', h3, h4⟩ := foldO_rep hf l ws b z vb h h2 (by simpa using hl) (fun i y u hy hu => hall (i + 1) y u (by simpa using hy) (by simpa using hu))
      exact ⟨v', by simp [List.foldlM_cons, h1, h3], h4⟩
    · cases h

theorem max2_rep {x y z : AV} {vx vy : Value} (h : max2 x y = some z) (hx : Rep Γ W x vx) (hy : Rep Γ W y vy) : ∃ v', (Builtin.max2 vx vy).run P W = .ok v' W ∧ Rep Γ W z v' := by
  unfold max2 at h
  split at h
  · split at h
    · injection h with h
      subst h
      obtain rfl := rep_int hx
      obtain rfl := rep_int hy
      exact ⟨_, rfl, .cl _ _ (.int _ _)⟩
    · cases h
  · cases h
theorem min2_rep {x y z : AV} {vx vy : Value} (h : min2 x y = some z) (hx : Rep Γ W x vx) (hy : Rep Γ W y vy) : ∃ v', (Builtin.min2 vx vy).run P W = .ok v' W ∧ Rep Γ W z v' := by
  unfold min2 at h
  split at h
  · split at h
    · injection h with h
      subst h
      obtain rfl := rep_int hx
      obtain rfl := rep_int hy
      exact ⟨_, rfl, .cl _ _ (.int _ _)⟩
    · cases h
  · cases h

theorem mapO_evA {T : List AV} {a : Act} (R : ActRel Γ W T a) {xs : List Operand} {l : List AV} (h : mapO (evA T) xs = some l) :
    (xs.map a.eval).length = l.length ∧ ∀ (i : Nat) y u, l[i]? = some y → (xs.map a.eval)[i]? = some u → Rep Γ W y u := by
  obtain ⟨h1, h2⟩ := mapO_spec h
  refine ⟨by simp [h1], fun i y u hy hu => ?_⟩
  rw [List.getElem?_map, Option.map_eq_some_iff] at hu
  obtain ⟨x, hx, rfl⟩ := hu
  exact evA_rep R (h2 i x y hx hy)

theorem partsO_rep {T : List AV} {a : Act} (R : ActRel Γ W T a) {parts : Array (Nat × Operand)} {ps : List (Nat × AV)} (h : partsO (evA T) parts = some ps) :
    (parts.map fun p => (p.1, a.eval p.2)).toList.length = ps.length ∧
    ∀ (j : Nat) p p', ps[j]? = some p → (parts.map fun p => (p.1, a.eval p.2)).toList[j]? = some p' → p'.1 = p.1 ∧ Rep Γ W p.2 p'.2 := by
  unfold partsO at h
  obtain ⟨h1, h2⟩ := mapO_spec h
  refine ⟨by simp at h1 ⊢; omega, fun j p p' hp hp' => ?_⟩
  simp only [Array.toList_map, List.getElem?_map, Option.map_eq_some_iff] at hp'
  obtain ⟨x, hx, rfl⟩ := hp'
  have := h2 j x p hx hp
  rw [Option.map_eq_some_iff] at this
  obtain ⟨v, hv, rfl⟩ := this
  exact ⟨rfl, evA_rep R hv⟩

theorem optO_rep {T : List AV} {a : Act} (R : ActRel Γ W T a) (x : Option Operand) : BoundRel Γ W (optO (evA T) x) (x.map a.eval) := by
  cases x with
  | none => trivial
  | some x => exact fun y hy => evA_rep R hy

end
end Go.Abs
