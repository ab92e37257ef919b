/- What an abstract value says of a value of the model in a world; what an abstract heap says of the world's blocks; how both live on. -/
import Derived.Test.YthiogecmahdmcaaGreatDoorRfxExec
import Derived.Laws.Sem
set_option linter.unusedVariables false
set_option linter.unusedSimpArgs false
namespace Go.Abs
open Go.RowKit

def one : AV → Bool
  | .agg _ | .tup _ | .any => false
  | _ => true

theorem one_of_c1 {x : AV} (h : c1 x = true) : one x = true := by cases x <;> simp_all [c1, one]

/-- Values alone: what they lead to lies in guarded cells. -/
inductive RepC (W : World) (G : Nat → Nat → Prop) : AV → Value → Prop
  | int (k : IntKind) (n : Int) : RepC W G (.int k n) (.int k n)
  | bool (b : Bool) : RepC W G (.bool b) (.bool b)
  | str (s : ByteArray) : RepC W G (.str s) (.string s)
  | nilsl : RepC W G .nilsl (.slice none 0 0)
  | nilptr : RepC W G .nilptr (.pointer none)
  | nilfn : RepC W G .nilfn .nilFunc
  | nilif : RepC W G .nilif .nilIface
  | fn (f : FuncId) : RepC W G (.fn f []) (.func (.func f) #[] #[])
  | imm (t : Bool) (n : Nat) (l : List AV) (a : Addr) (cap : Nat) (vs : Nat → Value) : n ≤ cap → (t = true → cap = n) →
      (∀ (i : Nat) x, l[i]? = some x → c1 x = true ∧ a.spot = none ∧ G a.block (a.off + i) ∧ W.cell? ⟨a.block, a.off + i, none⟩ = some (vs i)) →
      (∀ (i : Nat) x, l[i]? = some x → RepC W G x (vs i)) → RepC W G (.imm t n l) (.slice (some a) n cap)
  | iptr (l : List AV) (a : Addr) (vs : Nat → Value) :
      (∀ (i : Nat) x, l[i]? = some x → c1 x = true ∧ a.spot = none ∧ G a.block (a.off + i) ∧ W.cell? ⟨a.block, a.off + i, none⟩ = some (vs i)) →
      (∀ (i : Nat) x, l[i]? = some x → RepC W G x (vs i)) → RepC W G (.iptr l) (.pointer (some a))
  | agg (l : List AV) (ws : List Value) : ws.length = l.length → (∀ (i : Nat) x, l[i]? = some x → c1 x = true) →
      (∀ (i : Nat) x y, l[i]? = some x → ws[i]? = some y → RepC W G x y) → RepC W G (.agg l) (.agg ws.toArray)

theorem RepC.mono {W W' : World} {G G' : Nat → Nat → Prop} {x : AV} {v : Value} (h : RepC W G x v)
    (hG : ∀ β o, G β o → G' β o ∧ W'.cell? ⟨β, o, none⟩ = W.cell? ⟨β, o, none⟩) : RepC W' G' x v := by
  induction h with
  | int k n => exact .int k n
  | bool b => exact .bool b
  | str s => exact .str s
  | nilsl => exact .nilsl
  | nilptr => exact .nilptr
  | nilfn => exact .nilfn
  | nilif => exact .nilif
  | fn f => exact .fn f
  | imm t n l a cap vs h1 h2 h3 _ ih =>
    refine .imm t n l a cap vs h1 h2 (fun i x hx => ?_) (fun i x hx => ih i x hx)
    obtain ⟨a1, a2, a3, a4⟩ := h3 i x hx
    exact ⟨a1, a2, (hG _ _ a3).1, by rw [(hG _ _ a3).2]; exact a4⟩
  | iptr l a vs h3 _ ih =>
    refine .iptr l a vs (fun i x hx => ?_) (fun i x hx => ih i x hx)
    obtain ⟨a1, a2, a3, a4⟩ := h3 i x hx
    exact ⟨a1, a2, (hG _ _ a3).1, by rw [(hG _ _ a3).2]; exact a4⟩
  | agg l ws h1 h2 _ ih => exact .agg l ws h1 h2 (fun i x y hx hy => ih i x y hx hy)

/-- Where a living block of the run's own lies: version, number of cells that are known, the model's block, the first cell, the block's size. -/
structure Geo where
  ver : Nat
  len : Nat
  blk : Nat
  base : Nat
  csz : Nat

/-- From which of the model's blocks on all is the run's own; how many blocks there are, which of them are born, where the living ones lie, which cells are guarded. -/
structure Ctx where
  B : Nat
  N : Nat
  born : Nat → Prop
  g : Nat → Option Geo
  G : Nat → Nat → Prop

inductive Rep (Γ : Ctx) (W : World) : AV → Value → Prop
  | cl (x : AV) (v : Value) : RepC W Γ.G x v → Rep Γ W x v
  | own (b ver off n sz : Nat) (a : Addr) (cap : Nat) : Γ.born b → n ≤ cap →
      (∀ q, Γ.g b = some q → ver ≤ q.ver ∧ (q.ver = ver → a = ⟨q.blk, q.base + off, none⟩ ∧ q.len ≤ off + cap * sz ∧ q.base + off + cap * sz ≤ q.csz)) →
      Rep Γ W (.own b ver off n sz) (.slice (some a) n cap)
  | ptr (b ver off : Nat) (a : Addr) : Γ.born b → (∀ q, Γ.g b = some q → ver ≤ q.ver ∧ (q.ver = ver → a = ⟨q.blk, q.base + off, none⟩)) →
      Rep Γ W (.ptr b ver off) (.pointer (some a))
  | agg (l : List AV) (ws : List Value) : ws.length = l.length → (∀ (i : Nat) x, l[i]? = some x → one x = true) →
      (∀ (i : Nat) x y, l[i]? = some x → ws[i]? = some y → Rep Γ W x y) → Rep Γ W (.agg l) (.agg ws.toArray)
  | tup (l : List AV) (ws : List Value) : ws.length = l.length →
      (∀ (i : Nat) x y, l[i]? = some x → ws[i]? = some y → Rep Γ W x y) → Rep Γ W (.tup l) (.tuple ws.toArray)
  | fn (f : FuncId) (l : List AV) (ws : List Value) : ws.length = l.length →
      (∀ (i : Nat) x y, l[i]? = some x → ws[i]? = some y → Rep Γ W x y) → Rep Γ W (.fn f l) (.func (.func f) #[] ws.toArray)
  | any (v : Value) : Rep Γ W .any v

/-- The second state comes of the first: blocks may die, be born and take a new version; what is guarded stays. -/
structure Ext (Γ : Ctx) (W : World) (Γ' : Ctx) (W' : World) : Prop where
  B : Γ'.B = Γ.B
  n : ∀ b, Γ.born b → Γ'.born b
  g : ∀ b q', Γ.born b → Γ'.g b = some q' → ∃ q, Γ.g b = some q ∧ (q = q' ∨ q.ver < q'.ver)
  G : ∀ β o, Γ.G β o → Γ'.G β o ∧ W'.cell? ⟨β, o, none⟩ = W.cell? ⟨β, o, none⟩
  lo : ∀ β o, Γ'.G β o → Γ.G β o ∨ Γ.B ≤ β

theorem Ext.refl (Γ : Ctx) (W : World) : Ext Γ W Γ W := ⟨rfl, fun _ h => h, fun b q' _ h => ⟨q', h, .inl rfl⟩, fun _ _ h => ⟨h, rfl⟩, fun _ _ h => .inl h⟩

theorem Ext.trans {Γ₁ Γ₂ Γ₃ : Ctx} {W₁ W₂ W₃ : World} (h : Ext Γ₁ W₁ Γ₂ W₂) (k : Ext Γ₂ W₂ Γ₃ W₃) : Ext Γ₁ W₁ Γ₃ W₃ := by
  refine ⟨k.B.trans h.B, fun b hb => k.n b (h.n b hb), fun b q' hb hq => ?_, fun β o hG => ?_, fun β o hG => ?_⟩
  · obtain ⟨q2, h2, e2⟩ := k.g b q' (h.n b hb) hq
    obtain ⟨q1, h1, e1⟩ := h.g b q2 hb h2
    refine ⟨q1, h1, ?_⟩
    rcases e1 with rfl | e1 <;> rcases e2 with rfl | e2
    · exact .inl rfl
    · exact .inr e2
    · exact .inr e1
    · exact .inr (Nat.lt_trans e1 e2)
  · have a := h.G β o hG
    have b := k.G β o a.1
    exact ⟨b.1, b.2.trans a.2⟩
  · rcases k.lo β o hG with h1 | h1
    · exact h.lo β o h1
    · exact .inr (by rw [h.B] at h1; exact h1)

theorem Rep.ext {Γ Γ' : Ctx} {W W' : World} {x : AV} {v : Value} (h : Rep Γ W x v) (e : Ext Γ W Γ' W') : Rep Γ' W' x v := by
  induction h with
  | cl x v h => exact .cl x v (h.mono e.G)
  | own b ver off n sz a cap hb hn h =>
    refine .own b ver off n sz a cap (e.n b hb) hn (fun q' hq' => ?_)
    obtain ⟨q, hq, hh⟩ := e.g b q' hb hq'
    obtain ⟨h1, h2⟩ := h q hq
    rcases hh with rfl | hh
    · exact ⟨h1, h2⟩
    · exact ⟨by omega, fun hv => by omega⟩
  | ptr b ver off a hb h =>
    refine .ptr b ver off a (e.n b hb) (fun q' hq' => ?_)
    obtain ⟨q, hq, hh⟩ := e.g b q' hb hq'
    obtain ⟨h1, h2⟩ := h q hq
    rcases hh with rfl | hh
    · exact ⟨h1, h2⟩
    · exact ⟨by omega, fun hv => by omega⟩
  | agg l ws h1 h2 _ ih => exact .agg l ws h1 h2 ih
  | tup l ws h1 _ ih => exact .tup l ws h1 ih
  | fn f l ws h1 _ ih => exact .fn f l ws h1 ih
  | any v => exact .any v

section inversion
variable {Γ : Ctx} {W : World} {v : Value}
theorem rep_int {k : IntKind} {n : Int} (h : Rep Γ W (.int k n) v) : v = .int k n := by cases h with | cl _ _ h => cases h; rfl
theorem rep_bool {b : Bool} (h : Rep Γ W (.bool b) v) : v = .bool b := by cases h with | cl _ _ h => cases h; rfl
theorem rep_str {s : ByteArray} (h : Rep Γ W (.str s) v) : v = .string s := by cases h with | cl _ _ h => cases h; rfl
theorem rep_nilsl (h : Rep Γ W .nilsl v) : v = .slice none 0 0 := by cases h with | cl _ _ h => cases h; rfl
theorem rep_nilptr (h : Rep Γ W .nilptr v) : v = .pointer none := by cases h with | cl _ _ h => cases h; rfl
theorem rep_nilfn (h : Rep Γ W .nilfn v) : v = .nilFunc := by cases h with | cl _ _ h => cases h; rfl
theorem rep_nilif (h : Rep Γ W .nilif v) : v = .nilIface := by cases h with | cl _ _ h => cases h; rfl
theorem rep_imm {t : Bool} {n : Nat} {l : List AV} (h : Rep Γ W (.imm t n l) v) : ∃ (a : Addr) (cap : Nat) (vs : Nat → Value), v = .slice (some a) n cap ∧ n ≤ cap ∧ (t = true → cap = n) ∧
    (∀ (i : Nat) x, l[i]? = some x → c1 x = true ∧ a.spot = none ∧ Γ.G a.block (a.off + i) ∧ W.cell? ⟨a.block, a.off + i, none⟩ = some (vs i)) ∧
    (∀ (i : Nat) x, l[i]? = some x → RepC W Γ.G x (vs i)) := by
  cases h with | cl _ _ h => cases h with | imm t n l a cap vs h1 h2 h3 h4 => exact ⟨a, cap, vs, rfl, h1, h2, h3, h4⟩
theorem rep_iptr {l : List AV} (h : Rep Γ W (.iptr l) v) : ∃ (a : Addr) (vs : Nat → Value), v = .pointer (some a) ∧
    (∀ (i : Nat) x, l[i]? = some x → c1 x = true ∧ a.spot = none ∧ Γ.G a.block (a.off + i) ∧ W.cell? ⟨a.block, a.off + i, none⟩ = some (vs i)) ∧
    (∀ (i : Nat) x, l[i]? = some x → RepC W Γ.G x (vs i)) := by
  cases h with | cl _ _ h => cases h with | iptr l a vs h3 h4 => exact ⟨a, vs, rfl, h3, h4⟩
theorem rep_own {b ver off n sz : Nat} (h : Rep Γ W (.own b ver off n sz) v) : ∃ a cap, v = .slice (some a) n cap ∧ Γ.born b ∧ n ≤ cap ∧
    (∀ q, Γ.g b = some q → ver ≤ q.ver ∧ (q.ver = ver → a = ⟨q.blk, q.base + off, none⟩ ∧ q.len ≤ off + cap * sz ∧ q.base + off + cap * sz ≤ q.csz)) := by
  cases h with
  | cl _ _ h => cases h
  | own b ver off n sz a cap hb hn h => exact ⟨a, cap, rfl, hb, hn, h⟩
theorem rep_ptr {b ver off : Nat} (h : Rep Γ W (.ptr b ver off) v) : ∃ a, v = .pointer (some a) ∧ Γ.born b ∧
    (∀ q, Γ.g b = some q → ver ≤ q.ver ∧ (q.ver = ver → a = ⟨q.blk, q.base + off, none⟩)) := by
  cases h with
  | cl _ _ h => cases h
  | ptr b ver off a hb h => exact ⟨a, rfl, hb, h⟩
theorem rep_agg {l : List AV} (h : Rep Γ W (.agg l) v) : ∃ ws : List Value, v = .agg ws.toArray ∧ ws.length = l.length ∧ (∀ (i : Nat) x, l[i]? = some x → one x = true) ∧
    (∀ (i : Nat) x y, l[i]? = some x → ws[i]? = some y → Rep Γ W x y) := by
  cases h with
  | cl _ _ h => cases h with | agg l ws h1 h2 h3 => exact ⟨ws, rfl, h1, fun i x hx => one_of_c1 (h2 i x hx), fun i x y hx hy => .cl _ _ (h3 i x y hx hy)⟩
  | agg l ws h1 h2 h3 => exact ⟨ws, rfl, h1, h2, h3⟩
theorem rep_tup {l : List AV} (h : Rep Γ W (.tup l) v) : ∃ ws : List Value, v = .tuple ws.toArray ∧ ws.length = l.length ∧
    (∀ (i : Nat) x y, l[i]? = some x → ws[i]? = some y → Rep Γ W x y) := by
  cases h with
  | cl _ _ h => cases h
  | tup l ws h1 h3 => exact ⟨ws, rfl, h1, h3⟩
theorem rep_fn {f : FuncId} {l : List AV} (h : Rep Γ W (.fn f l) v) : ∃ ws : List Value, v = .func (.func f) #[] ws.toArray ∧ ws.length = l.length ∧
    (∀ (i : Nat) x y, l[i]? = some x → ws[i]? = some y → Rep Γ W x y) := by
  cases h with
  | cl _ _ h => cases h with | fn f => exact ⟨[], rfl, rfl, fun i x y hx => by simp at hx⟩
  | fn f l ws h1 h3 => exact ⟨ws, rfl, h1, h3⟩
end inversion

theorem Rep.undef (Γ : Ctx) (W : World) : Rep Γ W undefA undef := .tup [] [] rfl (fun i x y hx => by simp at hx)

/-- A value of one cell stands for a value of one cell. -/
theorem Rep.oneCell {Γ : Ctx} {W : World} {x : AV} {v : Value} (h : Rep Γ W x v) (h1 : one x = true) : v.oneCell' = true := by
  cases h with
  | cl x v h => cases h <;> first | rfl | simp [one] at h1
  | own => rfl
  | ptr => rfl
  | agg => simp [one] at h1
  | tup => simp [one] at h1
  | fn => rfl
  | any => simp [one] at h1

theorem Rep.toC1 {Γ : Ctx} {W : World} {x : AV} {v : Value} (h : Rep Γ W x v) (hc : c1 x = true) : RepC W Γ.G x v := by
  cases h with
  | cl x v h => exact h
  | own => simp [c1] at hc
  | ptr => simp [c1] at hc
  | agg => simp [c1] at hc
  | tup => simp [c1] at hc
  | any => simp [c1] at hc
  | fn f l ws h1 h2 =>
    simp [c1] at hc
    subst hc
    have : ws = [] := List.eq_nil_of_length_eq_zero (by simpa using h1)
    subst this
    exact .fn f

theorem Rep.toC {Γ : Ctx} {W : World} {x : AV} {v : Value} (h : Rep Γ W x v) (hc : closed x = true) : RepC W Γ.G x v := by
  cases x with
  | agg l =>
    obtain ⟨ws, rfl, h1, h2, h3⟩ := rep_agg h
    have hall : ∀ (i : Nat) x, l[i]? = some x → c1 x = true := fun i x hx => List.all_eq_true.1 hc x (List.mem_of_getElem? hx)
    exact .agg l ws h1 hall (fun i x y hx hy => (h3 i x y hx hy).toC1 (hall i x hx))
  | _ => exact h.toC1 hc

/-- The living blocks, one by one. -/
structure BlkOk (Γ : Ctx) (W : World) (B : Nat) (k : Blk) (q : Geo) : Prop where
  ver : q.ver = k.ver
  len : q.len = k.cells.length
  lo : B ≤ q.blk
  ex : ∃ c fz, W.heap[q.blk]? = some (.cells c k.el fz) ∧ c.size = q.csz ∧ (∀ o, o < c.size → ¬(fz.1 ≤ o ∧ o < fz.2)) ∧
    (∀ (i : Nat) x, k.cells[i]? = some x → one x = true ∧ ∃ v, c[q.base + i]? = some v ∧ Rep Γ W x v)
  room : q.base + q.len ≤ q.csz
  tight : k.ex = true → q.base = 0 ∧ q.csz = q.len
  free : ∀ o, q.base + (if k.fr then q.len else 0) ≤ o → ¬ Γ.G q.blk o

structure HeapRel (Γ : Ctx) (W : World) (B : Nat) (h : Heap) : Prop where
  eB : Γ.B = B
  n : Γ.N = h.length
  bn : ∀ b, Γ.born b → b < h.length
  ub : ∀ (b : Nat) (k : Blk), h[b]? = some k → k.dead = true → k.fr = true → ¬ Γ.born b
  blk : ∀ (b : Nat) (k : Blk), h[b]? = some k → k.dead = false → ∃ q, Γ.g b = some q ∧ BlkOk Γ W B k q
  back : ∀ b q, Γ.g b = some q → Γ.born b ∧ ∃ k : Blk, h[b]? = some k ∧ k.dead = false
  inj : ∀ b b' q q', Γ.g b = some q → Γ.g b' = some q' → q.blk = q'.blk → b = b'
  G : ∀ β o, Γ.G β o → β < W.heap.size

theorem hget_spec {h : Heap} {b ver : Nat} {k : Blk} (hk : hget h b ver = some k) : h[b]? = some k ∧ k.ver = ver ∧ k.dead = false := by
  unfold hget at hk
  split at hk
  · rename_i k' hk'
    split at hk
    · rename_i hv
      injection hk with hk
      subst hk
      exact ⟨hk', hv.1, hv.2⟩
    · cases hk
  · cases hk

/-- A living block that is named: where it lies. -/
theorem HeapRel.get {Γ : Ctx} {W : World} {B : Nat} {h : Heap} (H : HeapRel Γ W B h) {b ver : Nat} {k : Blk} (hk : hget h b ver = some k) :
    ∃ q, Γ.g b = some q ∧ q.ver = ver ∧ BlkOk Γ W B k q := by
  obtain ⟨h1, h2, h3⟩ := hget_spec hk
  obtain ⟨q, hq, ok⟩ := H.blk b k h1 h3
  exact ⟨q, hq, by rw [ok.ver, h2], ok⟩

theorem BlkOk.cell {Γ : Ctx} {W : World} {B : Nat} {k : Blk} {q : Geo} (ok : BlkOk Γ W B k q) {i : Nat} {x : AV} (hx : k.cells[i]? = some x) :
    one x = true ∧ ∃ v, W.cell? ⟨q.blk, q.base + i, none⟩ = some v ∧ Rep Γ W x v := by
  obtain ⟨c, fz, hb, hc, hf, hcell⟩ := ok.ex
  obtain ⟨h1, v, hv, hr⟩ := hcell i x hx
  exact ⟨h1, v, by simp [World.cell?, hb, hv], hr⟩

theorem add_eq {a : Addr} (h : a.spot = none) (n : Nat) : a.add n = ⟨a.block, a.off + n, none⟩ := by
  unfold Addr.add
  split
  · rename_i h0
    subst h0
    cases a
    simp_all
  · rw [← h]

end Go.Abs
