/- What the statements' data are: values, expressions, plans, tables; and the cells that stand for them. -/
import Derived.Test.YthiogecmahdmcaaGreatDoorRfxV
set_option linter.unusedVariables false
set_option linter.unusedSimpArgs false
namespace Go.Ty
open Go Go.Abs

/-- How a slice stands: nil, or memory (no room behind it, or nobody knows). -/
inductive Fl where
  | nil
  | im (t : Bool)

/-- A slice of n elements with these cells. -/
def slN (f : Fl) (n : Nat) (c : List AV) : AV :=
  match f with
  | .nil => if n = 0 then .nilsl else .imm false n c
  | .im t => .imm t n c

structure Sl (α : Type) where
  f : Fl
  l : List α

def Sl.av {α : Type} (enc : α → List AV) (s : Sl α) : AV := slN s.f s.l.length (s.l.flatMap enc)

def maxL : Nat := 140737488355328

abbrev I (n : Int) : AV := .int .i64 n
def encI (n : Int) : List AV := [I n]

structure Val where
  kind : Int
  int : Int
  text : ByteArray

def Val.cells (v : Val) : List AV := [I v.kind, I v.int, .str v.text]

structure Pred where
  col : Int
  op : Int
  value : Val

def Pred.cells (p : Pred) : List AV := [I p.col, I p.op, I p.value.kind, I p.value.int, .str p.value.text]

structure SKey where
  col : Int
  desc : Bool

def SKey.cells (k : SKey) : List AV := [I k.col, .bool k.desc]

structure Col where
  name : ByteArray
  type : Int
  notNull : Bool

def Col.cells (c : Col) : List AV := [.str c.name, I c.type, .bool c.notNull]

abbrev Row := Sl Val
def Row.cells (r : Row) : List AV := [r.av Val.cells]

structure Rel where
  name : ByteArray
  cols : Sl Col
  rows : Sl Row

def Rel.cells (r : Rel) : List AV := [.str r.name, r.cols.av Col.cells, r.rows.av Row.cells]

inductive Xp where
  | mk (kind op : Int) (value : Val) (table name : ByteArray) (distinct : Bool) (argsF : Fl) (args : List Xp) (partF : Fl) (part : List Xp) (ordF : Fl) (ord : List (Xp × Bool)) (slot type : Int)

namespace Xp
def kind : Xp → Int | .mk k _ _ _ _ _ _ _ _ _ _ _ _ _ => k
def op : Xp → Int | .mk _ o _ _ _ _ _ _ _ _ _ _ _ _ => o
def value : Xp → Val | .mk _ _ v _ _ _ _ _ _ _ _ _ _ _ => v
def table : Xp → ByteArray | .mk _ _ _ t _ _ _ _ _ _ _ _ _ _ => t
def name : Xp → ByteArray | .mk _ _ _ _ n _ _ _ _ _ _ _ _ _ => n
def distinct : Xp → Bool | .mk _ _ _ _ _ d _ _ _ _ _ _ _ _ => d
def argsF : Xp → Fl | .mk _ _ _ _ _ _ f _ _ _ _ _ _ _ => f
def args : Xp → List Xp | .mk _ _ _ _ _ _ _ a _ _ _ _ _ _ => a
def partF : Xp → Fl | .mk _ _ _ _ _ _ _ _ f _ _ _ _ _ => f
def part : Xp → List Xp | .mk _ _ _ _ _ _ _ _ _ p _ _ _ _ => p
def ordF : Xp → Fl | .mk _ _ _ _ _ _ _ _ _ _ f _ _ _ => f
def ord : Xp → List (Xp × Bool) | .mk _ _ _ _ _ _ _ _ _ _ _ o _ _ => o
def slot : Xp → Int | .mk _ _ _ _ _ _ _ _ _ _ _ _ s _ => s
def type : Xp → Int | .mk _ _ _ _ _ _ _ _ _ _ _ _ _ t => t
end Xp

mutual
def Xp.cells : Xp → List AV
  | .mk k o v t n d af as pf ps ff os s ty => [I k, I o, I v.kind, I v.int, .str v.text, .str t, .str n, .bool d, slN af as.length (cellsEs as), slN pf ps.length (cellsEs ps), slN ff os.length (cellsOs os), I s, I ty]
def cellsEs : List Xp → List AV
  | [] => []
  | e :: l => e.cells ++ cellsEs l
def cellsOs : List (Xp × Bool) → List AV
  | [] => []
  | (e, d) :: l => (e.cells ++ [.bool d]) ++ cellsOs l
end

def cellsO (o : Xp × Bool) : List AV := o.1.cells ++ [.bool o.2]

theorem cellsEs_eq : ∀ l, cellsEs l = l.flatMap Xp.cells
  | [] => rfl
  | e :: l => by rw [cellsEs, cellsEs_eq l, List.flatMap_cons]

theorem cellsOs_eq : ∀ l, cellsOs l = l.flatMap cellsO
  | [] => rfl
  | (e, d) :: l => by rw [cellsOs, cellsOs_eq l, List.flatMap_cons]; rfl

def Xp.argsS (e : Xp) : Sl Xp := ⟨e.argsF, e.args⟩
def Xp.partS (e : Xp) : Sl Xp := ⟨e.partF, e.part⟩
def Xp.ordS (e : Xp) : Sl (Xp × Bool) := ⟨e.ordF, e.ord⟩

/-- The cells of an expression, with its parts named. -/
theorem Xp.cells_eq (e : Xp) : e.cells = [I e.kind, I e.op, I e.value.kind, I e.value.int, .str e.value.text, .str e.table, .str e.name, .bool e.distinct, e.argsS.av Xp.cells, e.partS.av Xp.cells, e.ordS.av cellsO, I e.slot, I e.type] := by
  cases e
  rw [Xp.cells, cellsEs_eq, cellsEs_eq, cellsOs_eq]
  rfl

structure Agg where
  op : Int
  distinct : Bool
  args : Sl Xp

def Agg.cells (a : Agg) : List AV := [I a.op, .bool a.distinct, a.args.av Xp.cells]

structure Win where
  op : Int
  args : Sl Xp
  part : Sl Xp
  ord : Sl (Xp × Bool)

def Win.cells (w : Win) : List AV := [I w.op, w.args.av Xp.cells, w.part.av Xp.cells, w.ord.av cellsO]

/-- What a plan is made of, but for its inputs. -/
structure PNode where
  kind : Int
  joinKind : Int
  algo : Int
  table : ByteArray
  cols : Sl Int
  preds : Sl Pred
  exprs : Sl Xp
  aggs : Sl Agg
  wins : Sl Win
  sorts : Sl SKey
  limit : Int
  offset : Int
  rows : Sl Row
  types : Sl Int

inductive Plan where
  | mk (n : PNode) (inF : Fl) (ins : List Plan)

def Plan.n : Plan → PNode | .mk n _ _ => n
def Plan.inF : Plan → Fl | .mk _ f _ => f
def Plan.ins : Plan → List Plan | .mk _ _ l => l
def Plan.inS (p : Plan) : Sl Plan := ⟨p.inF, p.ins⟩

def PNode.front (n : PNode) : List AV := [I n.kind, I n.joinKind, I n.algo, .str n.table, n.cols.av encI, n.preds.av Pred.cells, n.exprs.av Xp.cells, n.aggs.av Agg.cells, n.wins.av Win.cells, n.sorts.av SKey.cells, I n.limit, I n.offset, n.rows.av Row.cells, n.types.av encI]

mutual
def Plan.cells : Plan → List AV
  | .mk n f l => n.front ++ [slN f l.length (cellsPs l)]
def cellsPs : List Plan → List AV
  | [] => []
  | p :: l => p.cells ++ cellsPs l
end

theorem cellsPs_eq : ∀ l, cellsPs l = l.flatMap Plan.cells
  | [] => rfl
  | e :: l => by rw [cellsPs, cellsPs_eq l, List.flatMap_cons]

theorem Plan.cells_eq (p : Plan) : p.cells = [I p.n.kind, I p.n.joinKind, I p.n.algo, .str p.n.table, p.n.cols.av encI, p.n.preds.av Pred.cells, p.n.exprs.av Xp.cells, p.n.aggs.av Agg.cells, p.n.wins.av Win.cells, p.n.sorts.av SKey.cells, I p.n.limit, I p.n.offset, p.n.rows.av Row.cells, p.n.types.av encI, p.inS.av Plan.cells] := by
  cases p
  rw [Plan.cells, cellsPs_eq]
  rfl

/-! ### How long lists are -/
def Sl.ok {α : Type} (s : Sl α) : Prop := s.l.length ≤ maxL

mutual
def Xp.wf : Xp → Prop
  | .mk _ _ _ _ _ _ _ as _ ps _ os _ _ => as.length ≤ maxL ∧ ps.length ≤ maxL ∧ os.length * 184 ≤ maxL ∧ wfEs as ∧ wfEs ps ∧ wfOs os
def wfEs : List Xp → Prop
  | [] => True
  | e :: l => e.wf ∧ wfEs l
def wfOs : List (Xp × Bool) → Prop
  | [] => True
  | (e, _) :: l => e.wf ∧ wfOs l
end

theorem wfEs_iff : ∀ {l}, wfEs l ↔ ∀ e ∈ l, e.wf
  | [] => by simp [wfEs]
  | e :: l => by simp [wfEs, wfEs_iff (l := l)]

theorem wfOs_iff : ∀ {l}, wfOs l ↔ ∀ o ∈ l, o.1.wf
  | [] => by simp [wfOs]
  | (e, d) :: l => by simp only [wfOs, wfOs_iff (l := l), List.mem_cons, forall_eq_or_imp]

theorem Xp.wf_iff {e : Xp} : e.wf ↔ (e.args.length ≤ maxL ∧ e.part.length ≤ maxL ∧ e.ord.length * 184 ≤ maxL ∧ (∀ x ∈ e.args, x.wf) ∧ (∀ x ∈ e.part, x.wf) ∧ (∀ o ∈ e.ord, o.1.wf)) := by
  cases e
  rw [Xp.wf, wfEs_iff, wfEs_iff, wfOs_iff]
  rfl

def wfSl {α : Type} (p : α → Prop) (s : Sl α) : Prop := s.l.length ≤ maxL ∧ ∀ x ∈ s.l, p x

def Row.wf (r : Row) : Prop := r.l.length ≤ maxL
def Agg.wf (a : Agg) : Prop := wfSl Xp.wf a.args
def wfOr (s : Sl (Xp × Bool)) : Prop := s.l.length * 184 ≤ maxL ∧ ∀ o ∈ s.l, o.1.wf
def Win.wf (w : Win) : Prop := wfSl Xp.wf w.args ∧ wfSl Xp.wf w.part ∧ wfOr w.ord
theorem le_of_mul {n k : Nat} (h : n * k ≤ maxL) (hk : 0 < k) : n ≤ maxL := Nat.le_trans (Nat.le_mul_of_pos_right _ hk) h
def Rel.wf (r : Rel) : Prop := r.cols.ok ∧ wfSl Row.wf r.rows
structure PNode.wf (n : PNode) : Prop where
  cols : n.cols.ok
  preds : n.preds.ok
  exprs : wfSl Xp.wf n.exprs
  aggs : wfSl Agg.wf n.aggs
  wins : wfSl Win.wf n.wins
  sorts : n.sorts.ok
  rows : wfSl Row.wf n.rows
  types : n.types.ok

mutual
def Plan.wf : Plan → Prop
  | .mk n _ l => n.wf ∧ l.length ≤ maxL ∧ wfPs l
def wfPs : List Plan → Prop
  | [] => True
  | p :: l => p.wf ∧ wfPs l
end

theorem wfPs_iff : ∀ {l}, wfPs l ↔ ∀ p ∈ l, p.wf
  | [] => by simp [wfPs]
  | e :: l => by simp [wfPs, wfPs_iff (l := l)]

theorem Plan.wf_iff {p : Plan} : p.wf ↔ (p.n.wf ∧ p.ins.length ≤ maxL ∧ ∀ x ∈ p.ins, x.wf) := by
  cases p
  rw [Plan.wf, wfPs_iff]
  rfl

/-! ### What the interpreter does with them -/
theorem slN_c1 (f : Fl) (n : Nat) (c : List AV) : c1 (slN f n c) = true := by
  unfold slN
  cases f with
  | nil => simp only; split <;> rfl
  | im t => rfl

theorem av_c1 {α : Type} (enc : α → List AV) (s : Sl α) : c1 (s.av enc) = true := slN_c1 _ _ _
theorem av_closed {α : Type} (enc : α → List AV) (s : Sl α) : closed (s.av enc) = true := closed_c1 (av_c1 enc s)
theorem av_namesV {α : Type} (enc : α → List AV) (s : Sl α) : namesV (s.av enc) = [] := namesV_closed (av_closed enc s)
theorem av_names1 {α : Type} (enc : α → List AV) (s : Sl α) : names1 (s.av enc) = [] := names1_c1 (av_c1 enc s)
theorem av_renV {α : Type} (enc : α → List AV) (s : Sl α) {ρ : Nat → Nat → Option (Nat × Nat)} : renV ρ (s.av enc) = some (s.av enc) := renV_closed (av_closed enc s)
theorem av_ren1 {α : Type} (enc : α → List AV) (s : Sl α) {ρ : Nat → Nat → Option (Nat × Nat)} : ren1 ρ (s.av enc) = some (s.av enc) := ren1_c1 (av_c1 enc s)
theorem av_ret {α : Type} (enc : α → List AV) (s : Sl α) {h : Heap} : retP h (s.av enc) = some (.one (.val (s.av enc))) := vret_closed (av_closed enc s)

theorem cellsA_c1 {x : AV} (h : c1 x = true) : cellsA x = some [x] := by cases x <;> first | rfl | (simp [c1] at h)
theorem av_cellsA {α : Type} (enc : α → List AV) (s : Sl α) : cellsA (s.av enc) = some [s.av enc] := cellsA_c1 (av_c1 enc s)

section
variable {P : Program} {t e : TypeId} {α : Type} {enc : α → List AV} {s : Sl α} {sz : Nat}

theorem slN_cases (f : Fl) (n : Nat) (c : List AV) : (slN f n c = .nilsl ∧ n = 0 ∧ f = .nil) ∨ ∃ t, slN f n c = .imm t n c := by
  cases f with
  | nil =>
    by_cases h : n = 0
    · exact .inl ⟨by simp [slN, h], h, rfl⟩
    · exact .inr ⟨false, by simp [slN, h]⟩
  | im t => exact .inr ⟨t, rfl⟩

theorem av_len (ht : P.underlying t = some (.slice e)) : lenT P t (s.av enc) = some (I s.l.length) := by
  unfold lenT Sl.av
  rw [ht]
  rcases slN_cases s.f s.l.length (s.l.flatMap enc) with ⟨h1, h2, _⟩ | ⟨tt, h1⟩
  · rw [h1, h2]
    rfl
  · rw [h1]

theorem flat_drop (hsz : ∀ x, (enc x).length = sz) : ∀ {l : List α} {i : Nat} (h : i < l.length), (l.flatMap enc).drop (i * sz) = enc l[i] ++ (l.drop (i + 1)).flatMap enc
  | [], i, h => by simp at h
  | x :: l, 0, h => by simp
  | x :: l, i + 1, h => by
    rw [List.flatMap_cons, Nat.succ_mul, Nat.add_comm, ← List.drop_drop, List.drop_left' (hsz x)]
    rw [flat_drop hsz (l := l) (i := i) (by simpa using h)]
    simp

theorem av_idx (ht : P.underlying t = some (.slice e)) (hs : sizeT P e = some sz) (hsz : ∀ x, (enc x).length = sz) {k : IntKind} {i : Nat} (h : i < s.l.length) :
    indexAddrP P t (s.av enc) (.int k i) = some (.iptr (enc s.l[i] ++ (s.l.drop (i + 1)).flatMap enc)) := by
  have hi : (0 : Int) ≤ (i : Int) ∧ (i : Int) < (s.l.length : Int) := by omega
  have key : ∀ tt, indexAddrP P t (.imm tt s.l.length (s.l.flatMap enc)) (.int k i) = some (.iptr (enc s.l[i] ++ (s.l.drop (i + 1)).flatMap enc)) := by
    intro tt
    unfold indexAddrP
    rw [ht]
    simp only [hi, and_self, if_true, hs, Int.toNat_natCast]
    rw [flat_drop hsz h]
  unfold Sl.av
  rcases slN_cases s.f s.l.length (s.l.flatMap enc) with ⟨_, h2, _⟩ | ⟨tt, h1⟩
  · omega
  · rw [h1]
    exact key _

theorem load_at (ha : isAggT P e = some true) (hs : sizeT P e = some sz) {c r : List AV} (h : c.length = sz) : loadL P e (c ++ r) = some (.agg c) := by
  unfold loadL
  rw [ha, hs]
  simp only
  rw [if_pos (by simp; omega), List.take_left' h]

theorem load_whole (ha : isAggT P e = some true) (hs : sizeT P e = some sz) {c : List AV} (h : c.length = sz) : loadL P e c = some (.agg c) := by
  have := load_at (r := []) ha hs h
  rwa [List.append_nil] at this

theorem load_one (ha : isAggT P e = some false) {x : AV} {r : List AV} : loadL P e (x :: r) = some x := by
  unfold loadL
  rw [ha]
  rfl
end

theorem Val.len (v : Val) : v.cells.length = 3 := rfl
theorem Pred.len (v : Pred) : v.cells.length = 5 := rfl
theorem SKey.len (v : SKey) : v.cells.length = 2 := rfl
theorem Col.len (v : Col) : v.cells.length = 3 := rfl
theorem Row.len (v : Row) : v.cells.length = 1 := rfl
theorem Rel.len (v : Rel) : v.cells.length = 3 := rfl
theorem Agg.len (v : Agg) : v.cells.length = 3 := rfl
theorem Win.len (v : Win) : v.cells.length = 4 := rfl
theorem Xp.len (v : Xp) : v.cells.length = 13 := by rw [Xp.cells_eq]; rfl
theorem Plan.len (v : Plan) : v.cells.length = 15 := by rw [Plan.cells_eq]; rfl
theorem O_len (v : Xp × Bool) : (cellsO v).length = 14 := by simp [cellsO, Xp.len]
theorem I_len (v : Int) : (encI v).length = 1 := rfl

theorem Xp.c1 (e : Xp) : e.cells.all Abs.c1 = true := by
  rw [Xp.cells_eq]
  simp only [List.all_cons, List.all_nil, av_c1, Bool.and_true]
  rfl
theorem Plan.c1 (p : Plan) : p.cells.all Abs.c1 = true := by
  rw [Plan.cells_eq]
  simp only [List.all_cons, List.all_nil, av_c1, Bool.and_true]
  rfl
theorem O_c1 (o : Xp × Bool) : (cellsO o).all Abs.c1 = true := by
  simp only [cellsO, List.all_append, Xp.c1, List.all_cons, List.all_nil, Bool.and_true]
  rfl
theorem Val.c1 (v : Val) : v.cells.all Abs.c1 = true := rfl
theorem Pred.c1 (v : Pred) : v.cells.all Abs.c1 = true := rfl
theorem SKey.c1 (v : SKey) : v.cells.all Abs.c1 = true := rfl
theorem Col.c1 (v : Col) : v.cells.all Abs.c1 = true := rfl
theorem Row.c1 (v : Row) : v.cells.all Abs.c1 = true := by simp only [Row.cells, List.all_cons, List.all_nil, av_c1, Bool.and_true]
theorem Rel.c1 (v : Rel) : v.cells.all Abs.c1 = true := by
  simp only [Rel.cells, List.all_cons, List.all_nil, av_c1, Bool.and_true]
  rfl
theorem Agg.c1 (v : Agg) : v.cells.all Abs.c1 = true := by
  simp only [Agg.cells, List.all_cons, List.all_nil, av_c1, Bool.and_true]
  rfl
theorem Win.c1 (v : Win) : v.cells.all Abs.c1 = true := by
  simp only [Win.cells, List.all_cons, List.all_nil, av_c1, Bool.and_true]
  rfl
theorem I_c1 (n : Int) : (encI n).all Abs.c1 = true := rfl
theorem closed_agg (l : List AV) : closed (.agg l) = l.all Abs.c1 := rfl


/-- A slice that is being made by appending. -/
def accV (b n sz : Nat) : AV := if n = 0 then .nilsl else .own b 0 0 n sz
def accH (el : TypeId) (n : Nat) (cells : List AV) : Heap := if n = 0 then [] else [⟨0, false, el, false, false, cells⟩]
/-- What a call hands back that made a slice by appending. -/
def rvOf {α : Type} (enc : α → List AV) (sz : Nat) (el : TypeId) (l : List α) : RV := if l.length = 0 then .one (.val .nilsl) else .one (.fresh l.length sz el (l.flatMap enc))

theorem flat_len {α : Type} {enc : α → List AV} {sz : Nat} (h : ∀ x, (enc x).length = sz) : ∀ l : List α, (l.flatMap enc).length = l.length * sz
  | [] => by simp
  | x :: l => by rw [List.flatMap_cons, List.length_append, h, flat_len h l, List.length_cons, Nat.succ_mul, Nat.add_comm]

theorem rvOf_imm {α : Type} {enc : α → List AV} {sz : Nat} {el : TypeId} {l : List α} (h : ∀ x, (enc x).length = sz) : (rvOf enc sz el l).imm = (⟨.nil, l⟩ : Sl α).av enc := by
  unfold rvOf Sl.av slN
  by_cases hl : l.length = 0
  · simp only [hl, if_true]
    rfl
  · simp only [hl, if_false]
    simp only [RV.imm, Comp.imm]
    rw [List.take_of_length_le (by rw [flat_len h]; exact Nat.le_refl _)]

theorem flat_take {α : Type} {enc : α → List AV} {l : List α} {i : Nat} (h : i < l.length) : (l.take (i + 1)).flatMap enc = (l.take i).flatMap enc ++ enc l[i] := by
  rw [List.take_succ_eq_append_getElem h, List.flatMap_append, List.flatMap_cons, List.flatMap_nil, List.append_nil]

theorem flat_all {α : Type} {enc : α → List AV} (h : ∀ x, (enc x).all Abs.c1 = true) : ∀ l : List α, (l.flatMap enc).all Abs.c1 = true
  | [] => rfl
  | x :: l => by rw [List.flatMap_cons, List.all_append, h, flat_all h l]; rfl

theorem flat_names {α : Type} {enc : α → List AV} (h : ∀ x, (enc x).all Abs.c1 = true) (l : List α) : (l.flatMap enc).flatMap names1 = [] := names_all (flat_all h l)
theorem flat_ren {α : Type} {enc : α → List AV} (h : ∀ x, (enc x).all Abs.c1 = true) (l : List α) {ρ : Nat → Nat → Option (Nat × Nat)} : mapO (ren1 ρ) (l.flatMap enc) = some (l.flatMap enc) := ren_all (flat_all h l)

theorem ret_own {h : Heap} {b v n sz : Nat} {k : Blk} (hk : hget h b v = some k) (hf : k.fr = false) (hc : k.cells.all Abs.c1 = true) (hl : n * sz ≤ k.cells.length) :
    retP h (.own b v 0 n sz) = some (.one (.fresh n sz k.el k.cells)) := by
  have e1 : ownOf h [.own b v 0 n sz] = some b := by simp only [ownOf, hk, hf, Bool.false_eq_true, if_false]
  have e2 : compsA.freshA h (some b) (.own b v 0 n sz) = some (.fresh n sz k.el k.cells) := by
    simp only [compsA.freshA, if_true, hk, List.drop_zero, depthA, vsnap_vals hc, hl, hc, hf, and_self]
  simp only [retP, e1, compsA, Bool.false_eq_true, if_false, e2]

theorem ret_acc {el : TypeId} {n sz : Nat} {c : List AV} (hc : c.all Abs.c1 = true) (hl : c.length = n * sz) : retP [⟨0, false, el, false, false, c⟩] (.own 0 0 0 n sz) = some (.one (.fresh n sz el c)) :=
  ret_own (k := ⟨0, false, el, false, false, c⟩) rfl rfl hc (by simp [hl])

theorem lit_one {P : Program} {t e : TypeId} {sz : Nat} {z c : List AV} {v : AV} (ht : P.underlying t = some (.slice e)) (hs : sizeT P e = some sz) (hz : zeroT P e = some z) (hzl : z.length = sz) (hpos : 0 < sz) (hle : sz ≤ 16777216)
    (hv : cellsA v = some c) (hc : c.length = sz) : litSlice P t 1 [(0, v)] = some (c, sz, e) := by
  unfold litSlice
  rw [ht]
  simp only [hs, Nat.one_mul, hle, if_true]
  rw [if_neg (by omega), hz]
  simp only [hzl, or_true, if_true]
  simp only [fillA, repl, hv, hc, Nat.zero_mul, Nat.zero_add, List.append_nil, hzl, Nat.le_refl, and_self, if_true, splice, List.take_zero, List.nil_append]
  rw [List.drop_eq_nil_of_le (by omega), List.append_nil]

end Go.Ty
