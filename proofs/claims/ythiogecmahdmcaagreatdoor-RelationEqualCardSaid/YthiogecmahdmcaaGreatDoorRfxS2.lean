/- What a call on values alone hands back: at its end; at its caller. -/
import Derived.Test.YthiogecmahdmcaaGreatDoorRfxS1
set_option linter.unusedVariables false
set_option linter.unusedSimpArgs false
namespace Go.Abs
open Go.RowKit

section
variable {P : Program} {Γ : Ctx} {W W' : World} {B : Nat} {h : Heap}

/-- The guard behind the end of a call: all blocks but one. -/
def endG (Γ : Ctx) (ex : Option Nat) : Nat → Nat → Prop := fun β o => Γ.G β o ∨ ∃ b q, ex ≠ some b ∧ Γ.g b = some q ∧ q.has β o

theorem endG_sub (ex : Option Nat) : ∀ β o, Γ.G β o → endG Γ ex β o := fun β o h => .inl h

theorem endG_new (H : HeapRel Γ W B h) (ex : Option Nat) : ∀ β o, endG Γ ex β o → Γ.G β o ∨ (B ≤ β ∧ β < W.heap.size) := by
  rintro β o (hG | ⟨b, q, _, hq, rfl, _, _⟩)
  · exact .inl hG
  · obtain ⟨_, k, hk, hd⟩ := H.back b q hq
    obtain ⟨q', hq', ok⟩ := H.blk b k hk hd
    rw [hq] at hq'
    injection hq' with hq'
    subst hq'
    exact .inr ⟨ok.lo, (H.lt hq).2⟩

theorem freshA_rep (H : HeapRel Γ W B h) {ex : Option Nat} {x : AV} {v : Value} {c : Comp} (hf : compsA.freshA h ex x = some c) (hr : Rep Γ W x v) : RepComp W (endG Γ ex) B c v ∧ c.isFresh = true := by
  unfold compsA.freshA at hf
  split at hf
  · rename_i b ver off n sz
    split at hf
    · rename_i hex
      split at hf
      · rename_i k hk
        split at hf
        · rename_i l hl
          split at hf
          · rename_i hc
            obtain ⟨hc1, hc2, hc3⟩ := hc
            injection hf with hf
            subst hf
            obtain ⟨q, hq, hver, ok⟩ := H.get hk
            obtain ⟨a, cap, rfl, hb, hn, hg⟩ := rep_own hr
            obtain ⟨rfl, hg2, hg3⟩ := (hg q hq).2 hver
            obtain ⟨hll, _⟩ := mapO_spec hl
            have hlen := ok.len
            have hroom := ok.room
            obtain ⟨c, fz, h1, h2, h3, h4⟩ := ok.ex
            have hll' : l.length = k.cells.length - off := by rw [hll]; simp
            refine ⟨.fresh _ _ _ _ _ _ _ _ _ hn ok.lo hc1 h1 h3 (by omega) (by omega) (fun o ho hG => ?_) (fun i x' hx' => ?_), rfl⟩
            · rcases hG with hG | ⟨b', q', hex', hq', hbl, ho1, ho2⟩
              · exact ok.free o (by rw [hc3]; simp; omega) hG
              · have := H.inj b' b q' q hq' hq hbl.symm
                subst this
                exact hex' hex
            · obtain ⟨x, hx, hsn⟩ := mapO_get hl hx'
              rw [List.getElem?_drop] at hx
              obtain ⟨a1, u, a2, a3⟩ := h4 (off + i) x hx
              refine ⟨List.all_eq_true.1 hc2 x' (List.mem_of_getElem? hx'), u, by rw [Nat.add_assoc]; exact a2, ?_⟩
              exact snap_rep H (endG_sub ex) _ hsn a3 (fun b' q' hex' _ hq' β o hh => .inr ⟨b', q', hex', hq', hh⟩)
          · cases hf
        · cases hf
      · cases hf
    · cases hf
  · cases hf

theorem compsA_rep (H : HeapRel Γ W B h) {ex : Option Nat} : ∀ (l : List AV) (ws : List Value) (done : Bool) (cs : List Comp), compsA h ex done l = some cs → ws.length = l.length →
    (∀ (i : Nat) x y, l[i]? = some x → ws[i]? = some y → Rep Γ W x y) →
    cs.length = l.length ∧ (∀ (i : Nat) c w, cs[i]? = some c → ws[i]? = some w → RepComp W (endG Γ ex) B c w) ∧ (done = true → cs.all (fun c => !c.isFresh) = true) ∧ atMost1 cs = true
  | [], ws, done, cs, hc, hl, hr => by
    simp only [compsA, Option.some.injEq] at hc
    subst hc
    exact ⟨rfl, fun i c w h => by simp at h, fun _ => rfl, rfl⟩
  | x :: l, ws, done, cs, hc, hl, hr => by
    cases ws with
    | nil => cases hl
    | cons v ws =>
      have hr0 := hr 0 x v rfl rfl
      have hr1 : ∀ (i : Nat) x y, l[i]? = some x → ws[i]? = some y → Rep Γ W x y := fun i x y hx hy => hr (i + 1) x y (by simpa using hx) (by simpa using hy)
      have hl1 : ws.length = l.length := by simpa using hl
      simp only [compsA] at hc
      split at hc
      · rename_i c hfr
        split at hc
        · rename_i cs1 hcs
          injection hc with hc
          subst hc
          obtain ⟨a1, a2, a3, a4⟩ := compsA_rep H l ws true cs1 hcs hl1 hr1
          cases done with
          | true => cases hfr
          | false =>
            simp only [Bool.false_eq_true, if_false] at hfr
            obtain ⟨b1, b2⟩ := freshA_rep H hfr hr0
            refine ⟨by simp [a1], fun i c' w hc hw => ?_, (fun h => by cases h), ?_⟩
            · cases i with
              | zero =>
                simp at hc hw
                subst hc hw
                exact b1
              | succ i => exact a2 i c' w (by simpa using hc) (by simpa using hw)
            · simp only [atMost1, b2, if_true]
              exact a3 rfl
        · cases hc
      · rename_i hfr
        split at hc
        · rename_i a cs1 hsn hcs
          injection hc with hc
          subst hc
          obtain ⟨a1, a2, a3, a4⟩ := compsA_rep H l ws done cs1 hcs hl1 hr1
          refine ⟨by simp [a1], fun i c' w hc hw => ?_, fun hd => ?_, ?_⟩
          · cases i with
            | zero =>
              simp at hc hw
              subst hc hw
              exact .val _ _ (snap_rep H (endG_sub ex) _ hsn hr0 (fun b' q' hex' _ hq' β o hh => .inr ⟨b', q', hex', hq', hh⟩))
            | succ i => exact a2 i c' w (by simpa using hc) (by simpa using hw)
          · simp only [List.all_cons, a3 hd]
            rfl
          · simpa [atMost1, Comp.isFresh] using a4
        · cases hc

theorem retP_rep (H : HeapRel Γ W B h) {r : AV} {v : Value} {rv : RV} (hr : Rep Γ W r v) (hret : retP h r = some rv) :
    rv.single = true ∧ ∃ G' : Nat → Nat → Prop, (∀ β o, Γ.G β o → G' β o) ∧ (∀ β o, G' β o → Γ.G β o ∨ (B ≤ β ∧ β < W.heap.size)) ∧ RepRV W G' B rv v := by
  unfold retP at hret
  split at hret
  · rename_i l
    split at hret
    · rename_i cs hcs
      injection hret with hret
      subst hret
      obtain ⟨ws, rfl, h1, h2⟩ := rep_tup hr
      obtain ⟨a1, a2, a3, a4⟩ := compsA_rep H l ws _ cs hcs h1 h2
      exact ⟨a4, _, endG_sub _, endG_new H _, .many _ _ (by rw [h1, a1]) a2⟩
    · cases hret
  · split at hret
    · rename_i c hcs
      injection hret with hret
      subst hret
      obtain ⟨a1, a2, a3, a4⟩ := compsA_rep H [_] [v] _ _ hcs rfl (fun i x y hx hy => by
        cases i with
        | zero =>
          simp at hx hy
          subst hx hy
          exact hr
        | succ i => simp at hx)
      exact ⟨rfl, _, endG_sub _, endG_new H _, .one _ _ (a2 0 _ _ rfl rfl)⟩
    · cases hret

/-! ### At the caller -/
/-- All of the new blocks is guarded. -/
def newG (G : Nat → Nat → Prop) (n m : Nat) : Nat → Nat → Prop := fun β o => G β o ∨ (n ≤ β ∧ β < m)

theorem comp_imm {G : Nat → Nat → Prop} {B : Nat} {c : Comp} {v : Value} (h : RepComp W G B c v) : RepC W (newG G B W.heap.size) c.imm v := by
  cases h with
  | val a v h => exact h.mono (fun β o hG => ⟨.inl hG, rfl⟩)
  | fresh n sz el l β base cap c fz h1 h2 h3 h4 h5 h6 h7 h8 h9 =>
    have hβ : β < W.heap.size := (Array.getElem?_eq_some_iff.1 h4).1
    have hcell : ∀ (i : Nat) x, (l.take (n * sz))[i]? = some x → c1 x = true ∧ ∃ v, W.cell? ⟨β, base + i, none⟩ = some v ∧ RepC W G x v := by
      intro i x hx
      rw [List.getElem?_take] at hx
      split at hx
      · obtain ⟨a1, v, a2, a3⟩ := h9 i x hx
        exact ⟨a1, v, by simp [World.cell?, h4, a2], a3⟩
      · cases hx
    refine .imm _ _ _ _ _ (fun i => (W.cell? ⟨β, base + i, none⟩).getD undef) h1 (fun h => by cases h) (fun i x hx => ?_) (fun i x hx => ?_)
    · obtain ⟨a1, v, a2, a3⟩ := hcell i x hx
      refine ⟨a1, rfl, .inr ⟨h2, hβ⟩, ?_⟩
      simp only
      rw [a2]
      rfl
    · obtain ⟨a1, v, a2, a3⟩ := hcell i x hx
      rw [a2]
      exact a3.mono (fun β o hG => ⟨.inl hG, rfl⟩)

theorem rv_imm {rv : RV} {v : Value} {B : Nat} (h : RepRV W Γ.G B rv v) : Rep (Γ.guard (newG Γ.G B W.heap.size)) W rv.imm v := by
  cases h with
  | one c v h => exact .cl _ _ (comp_imm h)
  | many l ws h1 h2 =>
    refine .tup _ _ (by simpa using h1) (fun i x y hx hy => ?_)
    rw [List.getElem?_map, Option.map_eq_some_iff] at hx
    obtain ⟨c, hc, rfl⟩ := hx
    exact .cl _ _ (comp_imm (h2 i c y hc hy))

theorem comp_place (H : HeapRel Γ W B h) {B1 : Nat} (hB : B ≤ B1) (hn : ∀ b q, Γ.g b = some q → q.blk < B1) {n sz : Nat} {el : TypeId} {l : List AV} {v : Value} (hc : RepComp W Γ.G B1 (.fresh n sz el l) v) :
    ∃ Γ', HeapRel Γ' W B (push h el false l) ∧ Ext Γ W Γ' W ∧ Rep Γ' W (.own h.length 0 0 n sz) v ∧ Γ'.G = Γ.G := by
  cases hc with
  | fresh _ _ _ _ β base cap c fz h1 h2 h3 h4 h5 h6 h7 h8 h9 =>
    obtain ⟨r1, r2⟩ := H.adopt (el := el) (l := l) (by omega) h4 h5 (fun b q hq => by have := hn b q hq; omega) h8 (by omega) (fun i x hx => by
      obtain ⟨a1, v, a2, a3⟩ := h9 i x hx
      exact ⟨one_of_c1 a1, v, a2, .cl _ _ a3⟩)
    refine ⟨_, r1, r2, ?_, rfl⟩
    rw [← H.n]
    exact rep_new_own (q := ⟨0, l.length, β, base, c.size⟩) h1 h6 h7 rfl

theorem placeC_vals : ∀ (l : List Comp) (h : Heap), l.all (fun c => !c.isFresh) = true → placeC l h = (l.map Comp.imm, h)
  | [], h, _ => rfl
  | .val a :: r, h, hall => by
    simp only [List.all_cons, Bool.and_eq_true] at hall
    simp [placeC, placeC_vals r h hall.2, Comp.imm]
  | .fresh n sz el l :: r, h, hall => by simp [Comp.isFresh] at hall

theorem comp_val {G : Nat → Nat → Prop} {B1 : Nat} {c : Comp} {v : Value} (hc : RepComp W G B1 c v) (hf : c.isFresh = false) : RepC W G c.imm v := by
  cases hc with
  | val a v h => exact h
  | fresh => cases hf

theorem placeC_rep {B1 : Nat} (hB : B ≤ B1) (hn : ∀ b q, Γ.g b = some q → q.blk < B1) : ∀ (l : List Comp) (ws : List Value), HeapRel Γ W B h → atMost1 l = true → ws.length = l.length →
    (∀ (i : Nat) c v, l[i]? = some c → ws[i]? = some v → RepComp W Γ.G B1 c v) →
    ∃ Γ', HeapRel Γ' W B (placeC l h).2 ∧ Ext Γ W Γ' W ∧ Γ'.G = Γ.G ∧ (placeC l h).1.length = ws.length ∧ ∀ (i : Nat) x y, (placeC l h).1[i]? = some x → ws[i]? = some y → Rep Γ' W x y
  | [], ws, H, h1, h2, h3 => ⟨Γ, H, Ext.refl _ _, rfl, h2.symm, fun i x y hx => by simp [placeC] at hx⟩
  | .val a :: r, ws, H, h1, h2, h3 => by
    cases ws with
    | nil => cases h2
    | cons w ws =>
      obtain ⟨Γ', r1, r2, r3, r4, r5⟩ := placeC_rep hB hn r ws H (by simpa [atMost1, Comp.isFresh] using h1) (by simpa using h2) (fun i c v hc hv => h3 (i + 1) c v (by simpa using hc) (by simpa using hv))
      refine ⟨Γ', r1, r2, r3, by simp [placeC, r4], fun i x y hx hy => ?_⟩
      cases i with
      | zero =>
        simp [placeC] at hx hy
        subst hx hy
        have := comp_val (h3 0 _ _ rfl rfl) rfl
        exact (Rep.cl (Γ := Γ) _ _ this).ext r2
      | succ i => exact r5 i x y (by simpa [placeC] using hx) (by simpa using hy)
  | .fresh n sz el l :: r, ws, H, h1, h2, h3 => by
    cases ws with
    | nil => cases h2
    | cons w ws =>
      have hall : r.all (fun c => !c.isFresh) = true := by simpa [atMost1, Comp.isFresh] using h1
      obtain ⟨Γ', r1, r2, r3, r4⟩ := comp_place H hB hn (h3 0 _ _ rfl rfl)
      refine ⟨Γ', by simpa [placeC, placeC_vals r _ hall] using r1, r2, r4, by simp [placeC, placeC_vals r _ hall]; simpa using h2.symm, fun i x y hx hy => ?_⟩
      cases i with
      | zero =>
        simp [placeC] at hx hy
        subst hx hy
        exact r3
      | succ i =>
        simp only [placeC, placeC_vals r _ hall, List.getElem?_cons_succ, List.getElem?_map, Option.map_eq_some_iff] at hx hy
        obtain ⟨c, hc, rfl⟩ := hx
        have := comp_val (h3 (i + 1) c y (by simpa using hc) (by simpa using hy)) (by
          have := List.all_eq_true.1 hall c (List.mem_of_getElem? hc)
          simpa using this)
        exact (Rep.cl (Γ := Γ) _ _ this).ext r2

theorem rv_place (H : HeapRel Γ W B h) {B1 : Nat} (hB : B ≤ B1) (hn : ∀ b q, Γ.g b = some q → q.blk < B1) {rv : RV} {v : Value} (hs : rv.single = true) (hc : RepRV W Γ.G B1 rv v) :
    ∃ Γ', HeapRel Γ' W B (rv.place h).2 ∧ Ext Γ W Γ' W ∧ Rep Γ' W (rv.place h).1 v := by
  cases hc with
  | one c v hc =>
    cases c with
    | val a => exact ⟨Γ, H, Ext.refl _ _, .cl _ _ (comp_val hc rfl)⟩
    | fresh n sz el l =>
      obtain ⟨Γ', r1, r2, r3, _⟩ := comp_place H hB hn hc
      exact ⟨Γ', r1, r2, r3⟩
  | many l ws h1 h2 =>
    obtain ⟨Γ', r1, r2, r3, r4, r5⟩ := placeC_rep hB hn l ws H hs h1 h2
    exact ⟨Γ', r1, r2, .tup _ _ r4.symm r5⟩

end
end Go.Abs
