/- Equality of values, field by field; slices seen as a length and cells. -/
import Derived.Test.YthiogecmahdmcaaGreatDoorRqCfg
import Derived.Test.YthiogecmahdmcaaGreatDoorRfxV
import Derived.Test.YthiogecmahdmcaaGreatDoorRfxD
import Derived.IntWalk
set_option linter.unusedVariables false
set_option linter.unusedSimpArgs false
namespace Go.Proofs.YthiogecmahdmcaaGreatDoor.Rq
open Go Go.Abs

mutual
/-- Equal, field by field: what is nil is as what is empty. -/
def eqA : AV → AV → Bool
  | .int _ a, .int _ b => a == b
  | .bool a, .bool b => a == b
  | .str a, .str b => a == b
  | .nilsl, .nilsl => true
  | .nilsl, .imm _ n _ => n == 0
  | .imm _ n _, .nilsl => n == 0
  | .imm _ n l, .imm _ m l' => n == m && eqL l l'
  | _, _ => false
def eqL : List AV → List AV → Bool
  | [], [] => true
  | x :: l, y :: l' => eqA x y && eqL l l'
  | _, _ => false
end

theorem eqL_append : ∀ (l1 l1' l2 l2' : List AV), l1.length = l1'.length → eqL (l1 ++ l2) (l1' ++ l2') = (eqL l1 l1' && eqL l2 l2')
  | [], [], l2, l2', h => by simp [eqL]
  | x :: l1, y :: l1', l2, l2', h => by
    simp only [List.cons_append, eqL, eqL_append l1 l1' l2 l2' (by simpa using h), Bool.and_assoc]
  | [], y :: l1', l2, l2', h => by cases h
  | x :: l1, [], l2, l2', h => by cases h

theorem eqL_len : ∀ (l l' : List AV), eqL l l' = true → l.length = l'.length
  | [], [], h => rfl
  | x :: l, y :: l', h => by
    simp only [eqL, Bool.and_eq_true] at h
    simp [eqL_len l l' h.2]
  | [], y :: l', h => by simp [eqL] at h
  | x :: l, [], h => by simp [eqL] at h

/-- Element i of a row of elements of sz cells. -/
def chunk (l : List AV) (sz i : Nat) : List AV := (l.drop (i * sz)).take sz

theorem chunk_len {l : List AV} {sz n i : Nat} (hl : l.length = n * sz) (hi : i < n) : (chunk l sz i).length = sz := by
  have : (i + 1) * sz ≤ n * sz := Nat.mul_le_mul_right _ hi
  rw [Nat.succ_mul] at this
  simp [chunk]
  omega

/-- One element more. -/
theorem eqL_step {l l' : List AV} {sz n i : Nat} (hl : l.length = n * sz) (hl' : l'.length = n * sz) (hi : i < n) :
    eqL (l.drop (i * sz)) (l'.drop (i * sz)) = (eqL (chunk l sz i) (chunk l' sz i) && eqL (l.drop ((i + 1) * sz)) (l'.drop ((i + 1) * sz))) := by
  have e : ∀ l : List AV, l.drop (i * sz) = chunk l sz i ++ l.drop ((i + 1) * sz) := by
    intro l
    unfold chunk
    rw [Nat.succ_mul, ← List.drop_drop, List.take_append_drop]
  rw [e l, e l', eqL_append _ _ _ _ (by rw [chunk_len hl hi, chunk_len hl' hi])]

/-- A slice: how many elements of sz cells, and its cells. -/
structure SlV (sz : Nat) (x : AV) (n : Nat) (l : List AV) : Prop where
  shape : (x = .nilsl ∧ n = 0 ∧ l = []) ∨ ∃ t, x = .imm t n l
  len : l.length = n * sz
  bnd : n ≤ 140737488355328

section
variable {sz : Nat} {x y : AV} {n m : Nat} {l l' : List AV} {t e : TypeId}

theorem SlV.c1 (h : SlV sz x n l) : c1 x = true := by
  rcases h.shape with ⟨rfl, rfl, _⟩ | ⟨tt, rfl⟩ <;> rfl

theorem SlV.lenT (h : SlV sz x n l) (ht : Tryz.prog.underlying t = some (.slice e)) : lenT Tryz.prog t x = some (.int .i64 n) := by
  unfold Abs.lenT
  rw [ht]
  rcases h.shape with ⟨rfl, rfl, _⟩ | ⟨tt, rfl⟩ <;> rfl

theorem SlV.idx (h : SlV sz x n l) (ht : Tryz.prog.underlying t = some (.slice e)) (hs : sizeT Tryz.prog e = some sz) {i : Nat} (hi : i < n) : indexAddrP Tryz.prog t x (.int .i64 i) = some (.iptr (l.drop (i * sz))) := by
  unfold indexAddrP
  rw [ht]
  rcases h.shape with ⟨rfl, rfl, _⟩ | ⟨tt, rfl⟩
  · omega
  · dsimp only
    rw [if_pos (by omega), hs, Int.toNat_natCast]

theorem SlV.eqA (h : SlV sz x n l) (h' : SlV sz y m l') : eqA x y = (n == m && eqL l l') := by
  have hl := h.len
  have hl' := h'.len
  rcases h.shape with ⟨rfl, rfl, rfl⟩ | ⟨tt, rfl⟩ <;> rcases h'.shape with ⟨rfl, rfl, rfl⟩ | ⟨tt', rfl⟩
  · simp [Rq.eqA, eqL]
  · simp only [Rq.eqA]
    by_cases hm : m = 0
    · subst hm
      have : l' = [] := List.eq_nil_of_length_eq_zero (by simpa using hl')
      subst this
      simp [eqL]
    · have hm' : ¬ 0 = m := fun e => hm e.symm
      rw [beq_false_of_ne hm, beq_false_of_ne hm']
      rfl
  · simp only [Rq.eqA]
    by_cases hm : n = 0
    · subst hm
      have : l = [] := List.eq_nil_of_length_eq_zero (by simpa using hl)
      subst this
      simp [eqL]
    · rw [beq_false_of_ne hm]
      rfl
  · simp [Rq.eqA]

theorem load_agg (hag : isAggT Tryz.prog e = some true) (hs : sizeT Tryz.prog e = some sz) {i : Nat} (hl : l.length = n * sz) (hi : i < n) : loadL Tryz.prog e (l.drop (i * sz)) = some (.agg (chunk l sz i)) := by
  unfold loadL
  rw [hag, hs]
  have : (i + 1) * sz ≤ n * sz := Nat.mul_le_mul_right _ hi
  rw [Nat.succ_mul] at this
  simp only
  rw [if_pos (by simp; omega)]
  rfl

theorem load_one (hag : isAggT Tryz.prog e = some false) {i : Nat} {v : AV} (hc : chunk l 1 i = [v]) : loadL Tryz.prog e (l.drop (i * 1)) = some v := by
  unfold loadL
  rw [hag]
  simp only
  unfold chunk at hc
  cases hd : l.drop (i * 1) with
  | nil => rw [hd] at hc; simp at hc
  | cons a r => rw [hd] at hc; simp at hc; simp [hc]

end

theorem beqTT : (true == true) = true := rfl
theorem beqTF : (true == false) = false := rfl
theorem beqFT : (false == true) = false := rfl
theorem beqFF : (false == false) = true := rfl

theorem wrap_succ {i : Nat} (h : i < 140737488355328) : IntKind.i64.wrap ((i : Int) + 1) = ((i + 1 : Nat) : Int) := by
  rw [IntWalk.i64_in _ (by omega)]
  omega

theorem fn_of {f : FuncId} {fn : Func} (h : Tryz.prog.funcs[f]? = some fn) (hb : fn.body.isSome = true) : cfgK.fns f = some fn := by
  have e : cfgK.fns = fnsK := by simp only [cfgK]
  rw [e]
  unfold fnsK
  rw [h]
  simp only [hb, if_true]

theorem lit_of (f : FuncId) : cfgK.lit f = false := by simp only [cfgK]
theorem live_of (f : FuncId) (r : Nat) : cfgK.live f r = liveK f r := by simp only [cfgK]
theorem thr_of (f : FuncId) : cfgK.thr f = [77, 76, 129, 183, 184, 220, 255].contains f := by simp only [cfgK]

/-- What the functions give. -/
noncomputable abbrev S : FuncId → List AV → Option RV := (lim Tryz.prog cfgK).p

end Go.Proofs.YthiogecmahdmcaaGreatDoor.Rq
