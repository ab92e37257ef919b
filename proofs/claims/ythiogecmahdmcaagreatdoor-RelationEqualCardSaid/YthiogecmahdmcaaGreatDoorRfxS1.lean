/- What is frozen: values that name blocks become values alone; blocks that are read only from now on. -/
import Derived.Test.YthiogecmahdmcaaGreatDoorRfxL7
set_option linter.unusedVariables false
set_option linter.unusedSimpArgs false
namespace Go.Abs
open Go.RowKit

section
variable {P : Program} {Γ : Ctx} {W W' : World} {B : Nat} {h : Heap}

/-- The known cells of a block. -/
def Geo.has (q : Geo) (β o : Nat) : Prop := β = q.blk ∧ q.base ≤ o ∧ o < q.base + q.len

theorem snap_closed : ∀ (d : Nat) {ex : Option Nat} {x x' : AV}, snap h ex d x = some x' → closed x' = true
  | 0, ex, x, x', hs => by cases hs
  | d + 1, ex, x, x', hs => by
    simp only [snap] at hs
    split at hs
    · split at hs
      · cases hs
      · split at hs
        · split at hs
          · split at hs
            · split at hs
              · injection hs with hs
                subst hs
                rfl
              · cases hs
            · cases hs
          · cases hs
        · cases hs
    · split at hs
      · split at hs
        · rename_i hall
          injection hs with hs
          subst hs
          exact hall
        · cases hs
      · cases hs
    · rename_i hnag
      split at hs
      · rename_i hc
        injection hs with hs
        subst hs
        cases x <;> first | exact hc | simp_all
      · cases hs

/-- A value frozen: it stands for the same, where the cells that were looked into are guarded. -/
theorem snap_rep (H : HeapRel Γ W B h) {G' : Nat → Nat → Prop} (hG : ∀ β o, Γ.G β o → G' β o) : ∀ (d : Nat) {ex : Option Nat} {x x' : AV} {v : Value}, snap h ex d x = some x' → Rep Γ W x v →
    (∀ b q, ex ≠ some b → b ∈ touch h d x → Γ.g b = some q → ∀ β o, q.has β o → G' β o) → RepC W G' x' v
  | 0, ex, x, x', v, hs, hr, ht => by cases hs
  | d + 1, ex, x, x', v, hs, hr, ht => by
    simp only [snap] at hs
    split at hs
    · rename_i b ver off n sz
      split at hs
      · cases hs
      · rename_i hex
        split at hs
        · rename_i k hk
          split at hs
          · rename_i hle
            split at hs
            · rename_i l hl
              split at hs
              · rename_i hall
                injection hs with hs
                subst hs
                obtain ⟨q, hq, hver, ok⟩ := H.get hk
                obtain ⟨a, cap, rfl, hb, hn, hg⟩ := rep_own hr
                obtain ⟨rfl, hg2, hg3⟩ := (hg q hq).2 hver
                obtain ⟨hll, hl2⟩ := mapO_spec hl
                have hlen := ok.len
                have hcell : ∀ (i : Nat) x', l[i]? = some x' → ∃ x, ((k.cells.drop off).take (n * sz))[i]? = some x ∧ snap h ex d x = some x' ∧ k.cells[off + i]? = some x ∧ i < n * sz := by
                  intro i x' hx'
                  obtain ⟨x, hx, hsn⟩ := mapO_get hl hx'
                  refine ⟨x, hx, hsn, ?_⟩
                  rw [List.getElem?_take] at hx
                  split at hx
                  · rename_i hi
                    rw [List.getElem?_drop] at hx
                    exact ⟨hx, hi⟩
                  · cases hx
                refine .imm _ _ _ _ _ (fun i => (W.cell? ⟨q.blk, q.base + off + i, none⟩).getD undef) hn (fun h => by cases h) (fun i x' hx' => ?_) (fun i x' hx' => ?_)
                · obtain ⟨x, hx, hsn, hkx, hi⟩ := hcell i x' hx'
                  obtain ⟨h1, u, hu, hru⟩ := ok.cell hkx
                  refine ⟨List.all_eq_true.1 hall x' (List.mem_of_getElem? hx'), rfl, ht b q hex (by simp [touch, hk]) hq _ _ ⟨rfl, by simp only; omega, by simp only; omega⟩, ?_⟩
                  simp only
                  rw [Nat.add_assoc, hu]
                  rfl
                · obtain ⟨x, hx, hsn, hkx, hi⟩ := hcell i x' hx'
                  obtain ⟨h1, u, hu, hru⟩ := ok.cell hkx
                  rw [Nat.add_assoc, hu]
                  refine snap_rep H hG d hsn hru (fun b' q' hex' hb' hq' => ht b' q' hex' ?_ hq')
                  simp only [touch, hk]
                  exact List.mem_cons_of_mem _ (List.mem_flatMap.2 ⟨x, List.mem_of_getElem? hx, hb'⟩)
              · cases hs
            · cases hs
          · cases hs
        · cases hs
    · rename_i l
      split at hs
      · rename_i l' hl
        split at hs
        · rename_i hall
          injection hs with hs
          subst hs
          obtain ⟨ws, rfl, h1, h2, h3⟩ := rep_agg hr
          obtain ⟨hll, hl2⟩ := mapO_spec hl
          refine .agg _ _ (by rw [h1, hll]) (fun i x hx => List.all_eq_true.1 hall x (List.mem_of_getElem? hx)) (fun i x' y hx' hy => ?_)
          obtain ⟨x, hx, hsn⟩ := mapO_get hl hx'
          refine snap_rep H hG d hsn (h3 i x y hx hy) (fun b' q' hex' hb' hq' => ht b' q' hex' ?_ hq')
          simp only [touch]
          exact List.mem_flatMap.2 ⟨x, List.mem_of_getElem? hx, hb'⟩
        · cases hs
      · cases hs
    · split at hs
      · rename_i hc
        injection hs with hs
        subst hs
        exact (hr.toC1 hc).mono (fun β o hg => ⟨hG β o hg, rfl⟩)
      · cases hs

theorem freezeA_get (ids : List Nat) : ∀ (h : Heap) (i j : Nat), (freezeA ids h i)[j]? = (h[j]?).map fun k => if ids.contains (i + j) && !k.dead then ⟨k.ver, true, k.el, k.ex, false, k.cells⟩ else k
  | [], i, j => by simp [freezeA]
  | k :: h, i, j => by
    cases j with
    | zero => simp [freezeA]
    | succ j =>
      simp only [freezeA, List.getElem?_cons_succ]
      rw [freezeA_get ids h (i + 1) j, show i + 1 + j = i + (j + 1) from by omega]

theorem freezeA_len (ids : List Nat) : ∀ (h : Heap) (i : Nat), (freezeA ids h i).length = h.length
  | [], i => rfl
  | k :: h, i => by simp [freezeA, freezeA_len ids h (i + 1)]

/-- The guard behind a freezing. -/
def frozenG (Γ : Ctx) (ids : List Nat) : Nat → Nat → Prop := fun β o => Γ.G β o ∨ ∃ b q, b ∈ ids ∧ Γ.g b = some q ∧ q.has β o

theorem HeapRel.freeze (H : HeapRel Γ W B h) (ids : List Nat) : HeapRel (Γ.guard (frozenG Γ ids)) W B (freezeA ids h 0) ∧ Ext Γ W (Γ.guard (frozenG Γ ids)) W := by
  have e : Ext Γ W (Γ.guard (frozenG Γ ids)) W := by
    refine ⟨rfl, fun _ h => h, fun b q hb hq => ⟨q, hq, .inl rfl⟩, fun β o h => ⟨.inl h, rfl⟩, fun β o h => ?_⟩
    rcases h with h | ⟨b, q, hb, hq, rfl, h1, h2⟩
    · exact .inl h
    · obtain ⟨_, k, hk, hd⟩ := H.back b q hq
      obtain ⟨q', hq', ok⟩ := H.blk b k hk hd
      rw [hq] at hq'
      injection hq' with hq'
      subst hq'
      exact .inr (by rw [H.eB]; exact ok.lo)
  refine ⟨⟨H.eB, by rw [freezeA_len]; exact H.n, fun b hb => by rw [freezeA_len]; exact H.bn b hb, fun b k hk hd hf hb => ?_, fun b k hk hd => ?_, fun b q hq => ?_, H.inj, fun β o hG => ?_⟩, e⟩
  · rw [freezeA_get] at hk
    cases hkb : h[b]? with
    | none => rw [hkb] at hk; cases hk
    | some k0 =>
      rw [hkb] at hk
      simp only [Option.map_some, Option.some.injEq] at hk
      split at hk
      · subst hk
        cases hd
      · subst hk
        exact H.ub b k0 hkb hd hf hb
  · rw [freezeA_get] at hk
    cases hkb : h[b]? with
    | none => rw [hkb] at hk; cases hk
    | some k0 =>
      rw [hkb] at hk
      simp only [Option.map_some, Option.some.injEq] at hk
      have hd0 : k0.dead = false := by
        split at hk
        · rename_i hc
          simp at hc
          exact hc.2
        · rw [hk]; exact hd
      obtain ⟨q, hq, ok⟩ := H.blk b k0 hkb hd0
      refine ⟨q, hq, ?_⟩
      have hel : k.el = k0.el ∧ k.ver = k0.ver ∧ k.cells = k0.cells ∧ k.ex = k0.ex ∧ (k.fr = true ∨ (k.fr = k0.fr ∧ b ∉ ids)) := by
        split at hk
        · subst hk
          exact ⟨rfl, rfl, rfl, rfl, .inl rfl⟩
        · rename_i hc
          subst hk
          refine ⟨rfl, rfl, rfl, rfl, .inr ⟨rfl, ?_⟩⟩
          intro hm
          simp [hm, hd0] at hc
      obtain ⟨e1, e2, e3, e4, e5⟩ := hel
      obtain ⟨c, fz, h1, h2, h3, h4⟩ := ok.ex
      have hlen := ok.len
      refine ⟨by rw [ok.ver, e2], by rw [ok.len, e3], ok.lo, ⟨c, fz, by rw [h1, e1], h2, h3, fun i x hx => ?_⟩, ok.room, fun he => ok.tight (by rw [← e4]; exact he), fun o ho hg => ?_⟩
      · rw [e3] at hx
        obtain ⟨a1, u, a2, a3⟩ := h4 i x hx
        exact ⟨a1, u, a2, a3.ext e⟩
      · rcases hg with hg | ⟨b', q', hb', hq', hbl, ho1, ho2⟩
        · refine ok.free o ?_ hg
          rcases e5 with e5 | ⟨e5, _⟩
          · rw [e5] at ho
            simp only [if_true] at ho
            split <;> omega
          · rw [← e5]
            exact ho
        · have := H.inj b b' q q' hq hq' hbl
          subst this
          rw [hq] at hq'
          injection hq' with hq'
          subst hq'
          rcases e5 with e5 | ⟨_, e5⟩
          · rw [e5] at ho
            simp only [if_true] at ho
            omega
          · exact e5 hb'
  · obtain ⟨hb, k, hk, hd⟩ := H.back b q hq
    refine ⟨hb, ?_⟩
    rw [freezeA_get, hk]
    refine ⟨_, rfl, ?_⟩
    dsimp only
    split
    · rfl
    · exact hd
  · rcases hG with hG | ⟨b, q, hb, hq, rfl, _, _⟩
    · exact H.G _ _ hG
    · exact (H.lt hq).2

/-! ### Results -/
inductive RepComp (W : World) (G : Nat → Nat → Prop) (B : Nat) : Comp → Value → Prop
  | val (a : AV) (v : Value) : RepC W G a v → RepComp W G B (.val a) v
  | fresh (n sz : Nat) (el : TypeId) (l : List AV) (β base cap : Nat) (c : Array Value) (fz : Nat × Nat) : n ≤ cap → B ≤ β → n * sz ≤ l.length → W.heap[β]? = some (.cells c el fz) →
      (∀ o, o < c.size → ¬(fz.1 ≤ o ∧ o < fz.2)) → l.length ≤ cap * sz → base + cap * sz ≤ c.size → (∀ o, base ≤ o → ¬ G β o) →
      (∀ (i : Nat) x, l[i]? = some x → c1 x = true ∧ ∃ v, c[base + i]? = some v ∧ RepC W G x v) → RepComp W G B (.fresh n sz el l) (.slice (some ⟨β, base, none⟩) n cap)

inductive RepRV (W : World) (G : Nat → Nat → Prop) (B : Nat) : RV → Value → Prop
  | one (c : Comp) (v : Value) : RepComp W G B c v → RepRV W G B (.one c) v
  | many (l : List Comp) (ws : List Value) : ws.length = l.length → (∀ (i : Nat) c v, l[i]? = some c → ws[i]? = some v → RepComp W G B c v) → RepRV W G B (.many l) (.tuple ws.toArray)

def atMost1 : List Comp → Bool
  | [] => true
  | c :: r => if c.isFresh then r.all (fun c => !c.isFresh) else atMost1 r

def RV.single : RV → Bool
  | .one _ => true
  | .many l => atMost1 l

theorem RepComp.mono {G G' : Nat → Nat → Prop} {c : Comp} {v : Value} (h : RepComp W G B c v) (hv : c.isFresh = false) (hG : ∀ β o, G β o → G' β o ∧ W'.cell? ⟨β, o, none⟩ = W.cell? ⟨β, o, none⟩) : RepComp W' G' B c v := by
  cases h with
  | val a v h => exact .val a v (h.mono hG)
  | fresh => cases hv

/-- A block that lies in the world becomes one of the run's own. -/
theorem HeapRel.adopt (H : HeapRel Γ W B h) {β base : Nat} {c : Array Value} {el : TypeId} {fz : Nat × Nat} {l : List AV} (hβ : B ≤ β) (hc : W.heap[β]? = some (.cells c el fz)) (hf : ∀ o, o < c.size → ¬(fz.1 ≤ o ∧ o < fz.2))
    (hn : ∀ b q, Γ.g b = some q → q.blk ≠ β) (hG : ∀ o, base ≤ o → ¬ Γ.G β o) (hl : base + l.length ≤ c.size)
    (hcell : ∀ (i : Nat) x, l[i]? = some x → one x = true ∧ ∃ v, c[base + i]? = some v ∧ Rep Γ W x v) :
    HeapRel (Γ.new ⟨0, l.length, β, base, c.size⟩) W B (Abs.push h el false l) ∧ Ext Γ W (Γ.new ⟨0, l.length, β, base, c.size⟩) W := by
  have e : Ext Γ W (Γ.new ⟨0, l.length, β, base, c.size⟩) W := by
    refine ⟨rfl, fun b hb => .inr hb, fun b q' hb hq' => ?_, fun β o' hG => ⟨hG, rfl⟩, fun _ _ h => .inl h⟩
    simp only [Ctx.new] at hq'
    have hlt := H.bn b hb
    rw [if_neg (by rw [H.n]; omega)] at hq'
    exact ⟨q', hq', .inl rfl⟩
  refine ⟨⟨H.eB, by simp [Ctx.new, Abs.push, H.n], fun b hb => ?_, fun b k hk hd hf hb => ?_, fun b k hk hd => ?_, fun b q hq => ?_, fun b b' q q' hq hq' hbl => ?_, H.G⟩, e⟩
  · simp only [Abs.push, List.length_append, List.length_cons, List.length_nil]
    rcases hb with hb | hb
    · rw [hb, H.n]
      omega
    · have := H.bn b hb
      omega
  · simp only [Abs.push] at hk
    rw [List.getElem?_append] at hk
    split at hk
    · rename_i hlt
      rcases hb with hb | hb
      · rw [hb, H.n] at hlt
        omega
      · exact H.ub b k hk hd hf hb
    · rename_i hlt
      have hbe : b = h.length := by
        have := (List.getElem?_eq_some_iff.1 hk).1
        simp at this
        omega
      subst hbe
      simp at hk
      subst hk
      cases hd
  · simp only [Abs.push] at hk
    rw [List.getElem?_append] at hk
    split at hk
    · rename_i hb
      obtain ⟨q, hq, ok⟩ := H.blk b k hk hd
      exact ⟨q, by simp only [Ctx.new]; rw [if_neg (by rw [H.n]; omega)]; exact hq, ok.ext e rfl (fun o ho => ho)⟩
    · rename_i hb
      have hbe : b = h.length := by
        have := (List.getElem?_eq_some_iff.1 hk).1
        simp at this
        omega
      subst hbe
      simp at hk
      subst hk
      refine ⟨⟨0, l.length, β, base, c.size⟩, by simp [Ctx.new, H.n], ⟨rfl, rfl, hβ, ⟨c, fz, hc, rfl, hf, fun i x hx => ?_⟩, hl, (fun h => by cases h), fun o ho => hG o (by simpa using ho)⟩⟩
      obtain ⟨h1, v, h2, h3⟩ := hcell i x hx
      exact ⟨h1, v, h2, h3.ext e⟩
  · simp only [Ctx.new] at hq
    split at hq
    · rename_i hb
      rw [hb, H.n]
      exact ⟨.inl H.n.symm, ⟨0, false, el, false, false, l⟩, by simp [Abs.push], rfl⟩
    · obtain ⟨hbn, k, hk, hd⟩ := H.back b q hq
      exact ⟨.inr hbn, k, by simp only [Abs.push]; rw [List.getElem?_append, if_pos (List.getElem?_eq_some_iff.1 hk).1]; exact hk, hd⟩
  · simp only [Ctx.new] at hq hq'
    split at hq <;> split at hq'
    · omega
    · injection hq with hq
      subst hq
      exact absurd hbl.symm (hn b' q' hq')
    · injection hq' with hq'
      subst hq'
      exact absurd hbl (hn b q hq)
    · exact H.inj b b' q q' hq hq' hbl

end
end Go.Abs
