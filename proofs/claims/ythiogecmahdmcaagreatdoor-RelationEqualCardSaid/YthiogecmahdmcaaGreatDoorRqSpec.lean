/- Equality of plans, field by field. -/
import Derived.Test.YthiogecmahdmcaaGreatDoorRqTy
import Derived.Laws.Strings
set_option linter.unusedVariables false
set_option linter.unusedSimpArgs false
namespace Go.Ty

def leq {α : Type} (f : α → α → Bool) : List α → List α → Bool
  | [], [] => true
  | x :: l, y :: l' => f x y && leq f l l'
  | _, _ => false

theorem leq_len {α : Type} {f : α → α → Bool} : ∀ {l l' : List α}, leq f l l' = true → l.length = l'.length
  | [], [], _ => rfl
  | x :: l, y :: l', h => by
    simp only [leq, Bool.and_eq_true] at h
    simp [leq_len h.2]
  | [], y :: l', h => by simp [leq] at h
  | x :: l, [], h => by simp [leq] at h

theorem leq_ne {α : Type} {f : α → α → Bool} {l l' : List α} (h : l.length ≠ l'.length) : leq f l l' = false := by
  cases e : leq f l l' with
  | false => rfl
  | true => exact absurd (leq_len e) h

theorem leq_drop {α : Type} {f : α → α → Bool} {l l' : List α} {i : Nat} (h : i < l.length) (h' : i < l'.length) : leq f (l.drop i) (l'.drop i) = (f l[i] l'[i] && leq f (l.drop (i + 1)) (l'.drop (i + 1))) := by
  rw [List.drop_eq_getElem_cons h, List.drop_eq_getElem_cons h']
  rfl

theorem leq_congr {α : Type} {f g : α → α → Bool} : ∀ {l l' : List α}, (∀ x ∈ l, ∀ y ∈ l', f x y = g x y) → leq f l l' = leq g l l'
  | [], [], _ => rfl
  | x :: l, y :: l', h => by
    have ih := leq_congr (l := l) (l' := l') (fun a ha b hb => h a (by simp [ha]) b (by simp [hb]))
    simp only [leq, h x (by simp) y (by simp), ih]
  | [], y :: l', h => rfl
  | x :: l, [], h => rfl

theorem leq_refl {α : Type} {f : α → α → Bool} : ∀ {l : List α}, (∀ x ∈ l, f x x = true) → leq f l l = true
  | [], _ => rfl
  | x :: l, h => by
    have ih := leq_refl (l := l) (fun y hy => h y (by simp [hy]))
    simp only [leq, h x (by simp), ih, Bool.and_self]

/-- Over pairs: both parts. -/
theorem leq_and {α : Type} {f g : α → α → Bool} : ∀ {l l' : List α}, leq (fun x y => f x y && g x y) l l' = (leq f l l' && leq g l l')
  | [], [] => rfl
  | x :: l, y :: l' => by
    simp only [leq, leq_and (l := l) (l' := l')]
    cases f x y <;> cases g x y <;> cases leq f l l' <;> rfl
  | [], y :: l' => rfl
  | x :: l, [] => rfl

theorem leq_map {α β : Type} {g : α → β} {f : β → β → Bool} : ∀ {l l' : List α}, leq f (l.map g) (l'.map g) = leq (fun x y => f (g x) (g y)) l l'
  | [], [] => rfl
  | x :: l, y :: l' => by simp only [List.map_cons, leq, leq_map (l := l) (l' := l')]
  | [], y :: l' => rfl
  | x :: l, [] => rfl

theorem bytes_eq (a b : ByteArray) : (a == b) = decide (a = b) := by
  cases a with | mk x => cases b with | mk y =>
  show ByteArray.beq _ _ = _
  unfold ByteArray.beq
  by_cases h : x = y
  · subst h
    simp
  · have h1 : (x == y) = false := by simpa using h
    simp [h, h1]

theorem bytes_refl (a : ByteArray) : (a == a) = true := by simp [bytes_eq]

/-- Go's comparison of strings, as the interpreter spells it. -/
theorem str_eq (a b : ByteArray) : (a.toList == b.toList) = (a == b) := by
  rw [ByteArray.toList_eq, ByteArray.toList_eq, bytes_eq]
  by_cases h : a = b
  · subst h
    simp
  · have : ¬ a.data = b.data := fun e => h (by cases a; cases b; simpa using e)
    simp [h, this]

def veq (a b : Val) : Bool := a.kind == b.kind && (a.int == b.int && a.text == b.text)
def peq (a b : Pred) : Bool := a.col == b.col && (a.op == b.op && veq a.value b.value)
def keq (a b : SKey) : Bool := a.col == b.col && a.desc == b.desc
def ieq (a b : Int) : Bool := a == b
def req (a b : Row) : Bool := leq veq a.l b.l

mutual
def Xp.eq : Xp → Xp → Bool
  | .mk k o v t n d _ as _ ps _ os s ty, .mk k' o' v' t' n' d' _ as' _ ps' _ os' s' ty' =>
    k == k' && (o == o' && (veq v v' && (t == t' && (n == n' && (d == d' && (s == s' && (ty == ty' && (eqEs as as' && (eqEs ps ps' && eqOs os os')))))))))
def eqEs : List Xp → List Xp → Bool
  | [], [] => true
  | x :: l, y :: l' => x.eq y && eqEs l l'
  | _, _ => false
def eqOs : List (Xp × Bool) → List (Xp × Bool) → Bool
  | [], [] => true
  | (x, d) :: l, (y, d') :: l' => (x.eq y && d == d') && eqOs l l'
  | _, _ => false
end

def oeq (a b : Xp × Bool) : Bool := a.1.eq b.1 && a.2 == b.2

theorem eqEs_eq : ∀ {l l'}, eqEs l l' = leq Xp.eq l l'
  | [], [] => rfl
  | x :: l, y :: l' => by rw [eqEs, eqEs_eq]; rfl
  | [], y :: l' => rfl
  | x :: l, [] => rfl
theorem eqOs_eq : ∀ {l l'}, eqOs l l' = leq oeq l l'
  | [], [] => rfl
  | (x, d) :: l, (y, d') :: l' => by rw [eqOs, eqOs_eq]; rfl
  | [], y :: l' => rfl
  | x :: l, [] => rfl

theorem Xp.eq_eq (a b : Xp) : a.eq b = (a.kind == b.kind && (a.op == b.op && (veq a.value b.value && (a.table == b.table && (a.name == b.name && (a.distinct == b.distinct && (a.slot == b.slot && (a.type == b.type &&
    (leq Xp.eq a.args b.args && (leq Xp.eq a.part b.part && leq oeq a.ord b.ord)))))))))) := by
  cases a
  cases b
  rw [Xp.eq, eqEs_eq, eqEs_eq, eqOs_eq]
  rfl

def aeq (a b : Agg) : Bool := a.op == b.op && (a.distinct == b.distinct && leq Xp.eq a.args.l b.args.l)
def weq (a b : Win) : Bool := a.op == b.op && (leq Xp.eq a.args.l b.args.l && (leq Xp.eq a.part.l b.part.l && leq oeq a.ord.l b.ord.l))

def PNode.eq (a b : PNode) : Bool :=
  (a.kind == b.kind && (a.joinKind == b.joinKind && (a.algo == b.algo && (a.table == b.table && (a.limit == b.limit && a.offset == b.offset))))) &&
  ((leq ieq a.cols.l b.cols.l && (leq peq a.preds.l b.preds.l && (leq keq a.sorts.l b.sorts.l && leq ieq a.types.l b.types.l))) &&
  ((leq Xp.eq a.exprs.l b.exprs.l && (leq aeq a.aggs.l b.aggs.l && leq weq a.wins.l b.wins.l)) && leq req a.rows.l b.rows.l))

mutual
def Plan.eq : Plan → Plan → Bool
  | .mk n _ l, .mk n' _ l' => n.eq n' && eqPs l l'
def eqPs : List Plan → List Plan → Bool
  | [], [] => true
  | x :: l, y :: l' => x.eq y && eqPs l l'
  | _, _ => false
end

theorem eqPs_eq : ∀ {l l'}, eqPs l l' = leq Plan.eq l l'
  | [], [] => rfl
  | x :: l, y :: l' => by rw [eqPs, eqPs_eq]; rfl
  | [], y :: l' => rfl
  | x :: l, [] => rfl

theorem Plan.eq_eq (a b : Plan) : a.eq b = (a.n.eq b.n && leq Plan.eq a.ins b.ins) := by
  cases a
  cases b
  rw [Plan.eq, eqPs_eq]
  rfl

theorem veq_refl (a : Val) : veq a a = true := by simp [veq, bytes_refl]
theorem ieq_refl (a : Int) : ieq a a = true := by simp [ieq]
theorem peq_refl (a : Pred) : peq a a = true := by simp [peq, veq_refl]
theorem keq_refl (a : SKey) : keq a a = true := by simp [keq]
theorem req_refl (a : Row) : req a a = true := leq_refl (fun x _ => veq_refl x)

mutual
theorem Xp.eq_refl : ∀ e : Xp, e.eq e = true
  | .mk k o v t n d _ as _ ps _ os s ty => by
    rw [Xp.eq, eqEs_refl as, eqEs_refl ps, eqOs_refl os]
    simp [veq_refl, bytes_refl]
theorem eqEs_refl : ∀ l : List Xp, eqEs l l = true
  | [] => rfl
  | e :: l => by rw [eqEs, Xp.eq_refl e, eqEs_refl l]; rfl
theorem eqOs_refl : ∀ l : List (Xp × Bool), eqOs l l = true
  | [] => rfl
  | (e, d) :: l => by rw [eqOs, Xp.eq_refl e, eqOs_refl l]; simp
end

theorem oeq_refl (a : Xp × Bool) : oeq a a = true := by simp [oeq, Xp.eq_refl]
theorem es_refl (l : List Xp) : leq Xp.eq l l = true := leq_refl (fun x _ => Xp.eq_refl x)
theorem os_refl (l : List (Xp × Bool)) : leq oeq l l = true := leq_refl (fun x _ => oeq_refl x)
theorem aeq_refl (a : Agg) : aeq a a = true := by simp [aeq, es_refl]
theorem weq_refl (a : Win) : weq a a = true := by simp [weq, es_refl, os_refl]
theorem PNode.eq_refl (a : PNode) : a.eq a = true := by
  simp [PNode.eq, bytes_refl, es_refl, leq_refl (fun x _ => ieq_refl x), leq_refl (fun x _ => peq_refl x), leq_refl (fun x _ => keq_refl x), leq_refl (fun x _ => aeq_refl x), leq_refl (fun x _ => weq_refl x), leq_refl (fun x _ => req_refl x)]

mutual
theorem Plan.eq_refl : ∀ p : Plan, p.eq p = true
  | .mk n _ l => by rw [Plan.eq, PNode.eq_refl, eqPs_refl l]; rfl
theorem eqPs_refl : ∀ l : List Plan, eqPs l l = true
  | [] => rfl
  | e :: l => by rw [eqPs, Plan.eq_refl e, eqPs_refl l]; rfl
end

/-! ### How many nodes; what is ordered -/
mutual
def Plan.nodes : Plan → Int
  | .mk _ _ l => min (nodesL l 1) 100
def nodesL : List Plan → Int → Int
  | [], n => n
  | p :: l, n => if n < 100 then nodesL l (n + p.nodes) else n
end

mutual
def Plan.ordered : Plan → Bool
  | .mk n _ l => n.kind == 7 || n.kind == 8 || ((n.kind == 2 || n.kind == 3) && orderedL l)
def orderedL : List Plan → Bool
  | [p] => p.ordered
  | _ => false
end

end Go.Ty
