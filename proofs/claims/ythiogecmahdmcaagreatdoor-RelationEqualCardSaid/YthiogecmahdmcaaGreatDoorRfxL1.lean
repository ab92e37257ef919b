/- How the relation between heaps lives on: a new block; a block written; a block that moves. -/
import Derived.Test.YthiogecmahdmcaaGreatDoorRfxC
set_option linter.unusedVariables false
set_option linter.unusedSimpArgs false
namespace Go.Abs
open Go.RowKit

/-- All but the heap (and the draws) is as it was. -/
structure Aside (W W' : World) : Prop where
  os : W'.os = W.os
  tape : W'.tape = W.tape
  output : W'.output = W.output

/-- What an operation leaves. -/
structure Post (Γ : Ctx) (W : World) (B : Nat) (h' : Heap) (v : AV) (v' : Value) (Γ' : Ctx) (W' : World) : Prop where
  rel : HeapRel Γ' W' B h'
  ext : Ext Γ W Γ' W'
  bel : Below B W W'
  rep : Rep Γ' W' v v'

def Ctx.upd (Γ : Ctx) (b : Nat) (q : Geo) : Ctx := { Γ with g := fun x => if x = b then some q else Γ.g x }
def Ctx.new (Γ : Ctx) (q : Geo) : Ctx := { Γ with N := Γ.N + 1, born := fun x => x = Γ.N ∨ Γ.born x, g := fun x => if x = Γ.N then some q else Γ.g x }
def Ctx.kill (Γ : Ctx) (b : Nat) : Ctx := { Γ with g := fun x => if x = b then none else Γ.g x }

section
variable {P : Program} {Γ : Ctx} {W W' : World} {B : Nat} {h : Heap}

theorem cell?_of_heap {W W' : World} {β o : Nat} (h : W'.heap[β]? = W.heap[β]?) : W'.cell? ⟨β, o, none⟩ = W.cell? ⟨β, o, none⟩ := by
  simp only [World.cell?, h]

theorem BlkOk.ext {Γ' : Ctx} {k : Blk} {q : Geo} (ok : BlkOk Γ W B k q) (e : Ext Γ W Γ' W') (hh : W'.heap[q.blk]? = W.heap[q.blk]?)
    (hG : ∀ o, Γ'.G q.blk o → Γ.G q.blk o) : BlkOk Γ' W' B k q := by
  obtain ⟨c, fz, h1, h2, h3, h4⟩ := ok.ex
  exact ⟨ok.ver, ok.len, ok.lo, ⟨c, fz, by rw [hh]; exact h1, h2, h3, fun i x hx => by
    obtain ⟨a, v, b, r⟩ := h4 i x hx
    exact ⟨a, v, b, r.ext e⟩⟩, ok.room, ok.tight, fun o ho hg => ok.free o ho (hG o hg)⟩

theorem HeapRel.lt (H : HeapRel Γ W B h) {b : Nat} {q : Geo} (hq : Γ.g b = some q) : b < h.length ∧ q.blk < W.heap.size := by
  obtain ⟨hbn, k, hk, hd⟩ := H.back b q hq
  refine ⟨(List.getElem?_eq_some_iff.1 hk).1, ?_⟩
  obtain ⟨q', hq', ok⟩ := H.blk b k hk hd
  rw [hq] at hq'
  injection hq' with hq'
  subst hq'
  obtain ⟨c, fz, h1, _⟩ := ok.ex
  exact (Array.getElem?_eq_some_iff.1 h1).1

/-- A world with one block more. -/
theorem ext_push {o : Obj} {q : Geo} (H : HeapRel Γ W B h) (hh : W'.heap = W.heap.push o) : Ext Γ W (Γ.new q) W' := by
  refine ⟨rfl, fun b hb => .inr hb, fun b q' hb hq' => ?_, fun β o' hG => ⟨hG, cell?_of_heap ?_⟩, fun _ _ h => .inl h⟩
  · simp only [Ctx.new] at hq'
    have hlt := H.bn b hb
    rw [if_neg (by rw [H.n]; omega)] at hq'
    exact ⟨q', hq', .inl rfl⟩
  · have := H.G β o' hG
    rw [hh, Array.getElem?_push, if_neg (by omega)]

theorem below_push {o : Obj} (hh : W'.heap = W.heap.push o) (ha : Aside W W') (hB : B ≤ W.heap.size) : Below B W W' :=
  ⟨ha.os, ha.tape, ha.output, by rw [hh]; simp, fun k hk => by rw [hh, Array.getElem?_push, if_neg (by omega)]⟩

/-- A block of one's own is laid. -/
theorem HeapRel.push (H : HeapRel Γ W B h) (hB : B ≤ W.heap.size) {el : TypeId} {ex : Bool} {l : List AV} {c : Array Value} {fz : Nat × Nat}
    (hh : W'.heap = W.heap.push (.cells c el fz)) (hc : Cells Γ W l (c.toList.take l.length)) (hlen : l.length ≤ c.size) (hex : ex = true → c.size = l.length)
    (hfz : ∀ o, o < c.size → ¬(fz.1 ≤ o ∧ o < fz.2)) :
    HeapRel (Γ.new ⟨0, l.length, W.heap.size, 0, c.size⟩) W' B (push h el ex l) := by
  have e : Ext Γ W (Γ.new ⟨0, l.length, W.heap.size, 0, c.size⟩) W' := ext_push H hh
  refine ⟨H.eB, by simp [Ctx.new, Abs.push, H.n], fun b hb => ?_, fun b k hk hd hf hb => ?_, fun b k hk hd => ?_, fun b q hq => ?_, fun b b' q q' hq hq' hbl => ?_, fun β o hG => ?_⟩
  · simp only [Abs.push, List.length_append, List.length_cons, List.length_nil]
    rcases hb with hb | hb
    · rw [hb, H.n]
      omega
    · have := H.bn b hb
      omega
  · simp only [Abs.push] at hk
    rw [List.getElem?_append] at hk
    split at hk
    · rename_i hlt
      rcases hb with hb | hb
      · rw [hb, H.n] at hlt
        omega
      · exact H.ub b k hk hd hf hb
    · rename_i hlt
      have hbe : b = h.length := by
        have := (List.getElem?_eq_some_iff.1 hk).1
        simp at this
        omega
      subst hbe
      simp at hk
      subst hk
      cases hd
  · simp only [Abs.push] at hk
    rw [List.getElem?_append] at hk
    split at hk
    · rename_i hb
      obtain ⟨q, hq, ok⟩ := H.blk b k hk hd
      refine ⟨q, by simp only [Ctx.new]; rw [if_neg (by rw [H.n]; omega)]; exact hq, ok.ext e ?_ (fun o ho => ho)⟩
      have := (H.lt hq).2
      rw [hh, Array.getElem?_push, if_neg (by omega)]
    · rename_i hb
      have hbe : b = h.length := by
        have := (List.getElem?_eq_some_iff.1 hk).1
        simp at this
        omega
      subst hbe
      simp at hk
      subst hk
      refine ⟨⟨0, l.length, W.heap.size, 0, c.size⟩, by simp [Ctx.new, H.n], ⟨rfl, rfl, hB, ⟨c, fz, by rw [hh]; simp, rfl, hfz, fun i x hx => ?_⟩, by simpa using hlen, fun he => ⟨rfl, hex he⟩, fun o _ hG => ?_⟩⟩
      · have hi : i < l.length := (List.getElem?_eq_some_iff.1 hx).1
        have hcl : i < c.size := by omega
        refine ⟨hc.one i x hx, c[i], by simp [hcl], ?_⟩
        exact (hc.rep i x c[i] hx (by rw [List.getElem?_take, if_pos hi]; simp [hcl])).ext e
      · have := H.G _ _ hG
        simp at this
  · simp only [Ctx.new] at hq
    split at hq
    · rename_i hb
      rw [hb, H.n]
      exact ⟨.inl H.n.symm, ⟨0, false, el, ex, false, l⟩, by simp [Abs.push], rfl⟩
    · obtain ⟨hbn, k, hk, hd⟩ := H.back b q hq
      exact ⟨.inr hbn, k, by simp only [Abs.push]; rw [List.getElem?_append, if_pos (List.getElem?_eq_some_iff.1 hk).1]; exact hk, hd⟩
  · simp only [Ctx.new] at hq hq'
    split at hq <;> split at hq'
    · omega
    · injection hq with hq
      subst hq
      have := (H.lt hq').2
      simp only at hbl
      omega
    · injection hq' with hq'
      subst hq'
      have := (H.lt hq).2
      simp only at hbl
      omega
    · exact H.inj b b' q q' hq hq' hbl
  · have := H.G β o hG
    rw [hh]
    simp
    omega

theorem rep_new_own {q : Geo} {n sz cap : Nat} (hn : n ≤ cap) (h1 : q.len ≤ cap * sz) (h2 : q.base + cap * sz ≤ q.csz) (hv : q.ver = 0) :
    Rep (Γ.new q) W (.own Γ.N 0 0 n sz) (.slice (some ⟨q.blk, q.base, none⟩) n cap) := by
  refine .own _ _ _ _ _ _ _ (by simp [Ctx.new]) hn (fun q' hq' => ?_)
  simp only [Ctx.new, if_true] at hq'
  injection hq' with hq'
  subst hq'
  exact ⟨Nat.zero_le _, fun _ => ⟨rfl, by omega, by omega⟩⟩

theorem rep_new_ptr {q : Geo} (hv : q.ver = 0) : Rep (Γ.new q) W (.ptr Γ.N 0 0) (.pointer (some ⟨q.blk, q.base, none⟩)) := by
  refine .ptr _ _ _ _ (by simp [Ctx.new]) (fun q' hq' => ?_)
  simp only [Ctx.new, if_true] at hq'
  injection hq' with hq'
  subst hq'
  exact ⟨Nat.zero_le _, fun _ => rfl⟩

theorem ext_upd {b : Nat} {q q' : Geo} (hq : Γ.g b = some q) (hv : q = q' ∨ q.ver < q'.ver) (hG : ∀ β o, Γ.G β o → W'.cell? ⟨β, o, none⟩ = W.cell? ⟨β, o, none⟩) : Ext Γ W (Γ.upd b q') W' := by
  refine ⟨rfl, fun _ h => h, fun b1 q1 hb hq1 => ?_, fun β o h => ⟨h, hG β o h⟩, fun _ _ h => .inl h⟩
  simp only [Ctx.upd] at hq1
  split at hq1
  · rename_i hb1
    subst hb1
    injection hq1 with hq1
    subst hq1
    exact ⟨q, hq, hv⟩
  · exact ⟨q1, hq1, .inl rfl⟩

/-- A living block takes a new place or new cells. -/
theorem HeapRel.upd (H : HeapRel Γ W B h) {b : Nat} {k k' : Blk} {q q' : Geo} (hk : h[b]? = some k) (hq : Γ.g b = some q) (hd' : k'.dead = false)
    (e : Ext Γ W (Γ.upd b q') W') (ok' : BlkOk (Γ.upd b q') W' B k' q')
    (hoth : ∀ β, β ≠ q.blk → β < W.heap.size → W'.heap[β]? = W.heap[β]?) (hsz : W.heap.size ≤ W'.heap.size)
    (hblk : q'.blk = q.blk ∨ W.heap.size ≤ q'.blk) : HeapRel (Γ.upd b q') W' B (h.set b k') := by
  have hb : b < h.length := (List.getElem?_eq_some_iff.1 hk).1
  refine ⟨H.eB, by simp [Ctx.upd, H.n], fun b1 hb1 => by rw [List.length_set]; exact H.bn b1 hb1, fun b1 k1 hk1 hd hf hb1 => ?_, fun b1 k1 hk1 hd => ?_, fun b1 q1 hq1 => ?_, fun b1 b2 q1 q2 hq1 hq2 hbl => ?_, fun β o hG => Nat.lt_of_lt_of_le (H.G β o hG) hsz⟩
  · rw [List.getElem?_set] at hk1
    split at hk1
    · injection hk1 with hk1
      subst hk1
      rw [hd'] at hd
      cases hd
    · exact H.ub b1 k1 hk1 hd hf hb1
  · rw [List.getElem?_set] at hk1
    split at hk1
    · rename_i hbb
      subst hbb
      injection hk1 with hk1
      subst hk1
      exact ⟨q', by simp [Ctx.upd], ok'⟩
    · rename_i hbb
      obtain ⟨q1, hq1, ok⟩ := H.blk b1 k1 hk1 hd
      refine ⟨q1, by simp only [Ctx.upd]; rw [if_neg (fun e => hbb e.symm)]; exact hq1, ok.ext e ?_ (fun o ho => ho)⟩
      refine hoth _ (fun hbl => hbb ?_) (H.lt hq1).2
      exact (H.inj _ _ _ _ hq1 hq hbl).symm
  · simp only [Ctx.upd] at hq1
    split at hq1
    · rename_i hbb
      subst hbb
      exact ⟨(H.back b1 q hq).1, k', by simp [hb], hd'⟩
    · rename_i hbb
      obtain ⟨hbn1, k1, hk1, hd1⟩ := H.back b1 q1 hq1
      exact ⟨hbn1, k1, by rw [List.getElem?_set, if_neg (fun e => hbb e.symm)]; exact hk1, hd1⟩
  · simp only [Ctx.upd] at hq1 hq2
    split at hq1 <;> split at hq2
    · omega
    · rename_i h1 h2
      injection hq1 with hq1
      subst hq1
      rcases hblk with hblk | hblk
      · rw [hblk] at hbl
        exact absurd (H.inj _ _ _ _ hq hq2 hbl).symm h2
      · have := (H.lt hq2).2
        omega
    · rename_i h1 h2
      injection hq2 with hq2
      subst hq2
      rcases hblk with hblk | hblk
      · rw [hblk] at hbl
        exact absurd (H.inj _ _ _ _ hq1 hq hbl) h1
      · have := (H.lt hq1).2
        omega
    · exact H.inj _ _ _ _ hq1 hq2 hbl

end
end Go.Abs
