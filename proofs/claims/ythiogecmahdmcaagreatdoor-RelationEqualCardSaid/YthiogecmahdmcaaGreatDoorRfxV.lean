/- Stepping through code by rewriting: what is still to be run is kept as data; what is left at the end are facts on plain values. -/
import Derived.Test.YthiogecmahdmcaaGreatDoorRfxN
set_option linter.unusedVariables false
set_option linter.unusedSimpArgs false
namespace Go.Abs

section
variable {P : Program} {cfg : Cfg} {own : Bool} {dead : Nat → List Tmp}

/-- The code comes to an end that is as Q says. -/
def W (P : Program) (cfg : Cfg) (own : Bool) (dead : Nat → List Tmp) (c : Code) (s : St) (Q : Ex → St → Prop) : Prop :=
  ∃ fuel ex s', codeA P cfg (lim P cfg) own fuel dead c s = some (ex, s') ∧ Q ex s'

/-- So does a loop with this body, from behind a round. -/
def LW (P : Program) (cfg : Cfg) (own : Bool) (dead : Nat → List Tmp) (b : Code) (m : Nat) (s : St) (Q : Ex → St → Prop) : Prop :=
  ∃ fuel n ex s', iterA (codeA P cfg (lim P cfg) own fuel dead b) (headA (dead (keyA b)) m) n s = some (ex, s') ∧ Q ex s'

inductive Fr where
  | seq (b : Code)
  | blk (id : Nat)
  | lp (b : Code) (m : Nat)

def kQ (P : Program) (cfg : Cfg) (own : Bool) (dead : Nat → List Tmp) : List Fr → (Ex → St → Prop) → Ex → St → Prop
  | [], Q, ex, s => Q ex s
  | .seq b :: k, Q, .normal, s => W P cfg own dead b s (kQ P cfg own dead k Q)
  | .seq _ :: k, Q, .exit i, s => kQ P cfg own dead k Q (.exit i) s
  | .seq _ :: k, Q, .ret, s => kQ P cfg own dead k Q .ret s
  | .blk _ :: k, Q, .normal, s => kQ P cfg own dead k Q .normal s
  | .blk id :: k, Q, .exit i, s => if i = id then kQ P cfg own dead k Q .normal s else kQ P cfg own dead k Q (.exit i) s
  | .blk _ :: k, Q, .ret, s => kQ P cfg own dead k Q .ret s
  | .lp b m :: k, Q, .normal, s => LW P cfg own dead b m s (kQ P cfg own dead k Q)
  | .lp _ _ :: k, Q, .exit i, s => kQ P cfg own dead k Q (.exit i) s
  | .lp _ _ :: k, Q, .ret, s => kQ P cfg own dead k Q .ret s

/-- Code to be run, and what is to be run behind it. -/
def M (P : Program) (cfg : Cfg) (own : Bool) (dead : Nat → List Tmp) (c : Code) (k : List Fr) (s : St) (Q : Ex → St → Prop) : Prop := W P cfg own dead c s (kQ P cfg own dead k Q)
def R (P : Program) (cfg : Cfg) (own : Bool) (dead : Nat → List Tmp) (ex : Ex) (k : List Fr) (s : St) (Q : Ex → St → Prop) : Prop := kQ P cfg own dead k Q ex s
/-- A loop's round, at its head. -/
def H (P : Program) (cfg : Cfg) (own : Bool) (dead : Nat → List Tmp) (b : Code) (m : Nat) (k : List Fr) (s : St) (Q : Ex → St → Prop) : Prop := M P cfg own dead b (.lp b m :: k) s Q

theorem M_congr {c : Code} {k : List Fr} {s s' : St} {Q : Ex → St → Prop} (h : s = s') : M P cfg own dead c k s Q = M P cfg own dead c k s' Q := by rw [h]
theorem R_congr {ex : Ex} {k : List Fr} {s s' : St} {Q : Ex → St → Prop} (h : s = s') : R P cfg own dead ex k s Q = R P cfg own dead ex k s' Q := by rw [h]
theorem H_congr {b : Code} {m : Nat} {k : List Fr} {s s' : St} {Q : Ex → St → Prop} (h : s = s') : H P cfg own dead b m k s Q = H P cfg own dead b m k s' Q := by rw [h]

theorem code_up {fuel k : Nat} {c : Code} {s : St} {r : Ex × St} (h : codeA P cfg (lim P cfg) own fuel dead c s = some r) : codeA P cfg (lim P cfg) own (fuel + k) dead c s = some r :=
  codeA_mono ⟨fun _ _ _ h => h, fun _ _ _ _ h => h⟩ c s r h

theorem iter_up {fuel k n j : Nat} {b : Code} {hd : St → St} {s : St} {r : Ex × St} (h : iterA (codeA P cfg (lim P cfg) own fuel dead b) hd n s = some r) : iterA (codeA P cfg (lim P cfg) own (fuel + k) dead b) hd (n + j) s = some r :=
  iterA_mono (fun s r h => code_up h) n j s r h

theorem W_mono {c : Code} {s : St} {Q Q' : Ex → St → Prop} (h : W P cfg own dead c s Q) (hq : ∀ ex s, Q ex s → Q' ex s) : W P cfg own dead c s Q' := by
  obtain ⟨f, ex, s', h1, h2⟩ := h
  exact ⟨f, ex, s', h1, hq _ _ h2⟩

theorem M_skip {k : List Fr} {s : St} {Q : Ex → St → Prop} : M P cfg own dead .skip k s Q = R P cfg own dead .normal k s Q := by
  apply propext
  constructor
  · rintro ⟨f, ex, s', h1, h2⟩
    simp only [codeA, Option.some.injEq, Prod.mk.injEq] at h1
    obtain ⟨rfl, rfl⟩ := h1
    exact h2
  · intro h
    exact ⟨0, _, _, rfl, h⟩

theorem M_label {l : Nat} {k : List Fr} {s : St} {Q : Ex → St → Prop} : M P cfg own dead (.label l) k s Q = R P cfg own dead .normal k s Q := by
  apply propext
  constructor
  · rintro ⟨f, ex, s', h1, h2⟩
    simp only [codeA, Option.some.injEq, Prod.mk.injEq] at h1
    obtain ⟨rfl, rfl⟩ := h1
    exact h2
  · intro h
    exact ⟨0, _, _, rfl, h⟩

theorem M_ret {k : List Fr} {s : St} {Q : Ex → St → Prop} : M P cfg own dead .ret k s Q = R P cfg own dead .ret k s Q := by
  apply propext
  constructor
  · rintro ⟨f, ex, s', h1, h2⟩
    simp only [codeA, Option.some.injEq, Prod.mk.injEq] at h1
    obtain ⟨rfl, rfl⟩ := h1
    exact h2
  · intro h
    exact ⟨0, _, _, rfl, h⟩

theorem M_exit {i : Nat} {k : List Fr} {s : St} {Q : Ex → St → Prop} : M P cfg own dead (.exit i) k s Q = R P cfg own dead (.exit i) k s Q := by
  apply propext
  constructor
  · rintro ⟨f, ex, s', h1, h2⟩
    simp only [codeA, Option.some.injEq, Prod.mk.injEq] at h1
    obtain ⟨rfl, rfl⟩ := h1
    exact h2
  · intro h
    exact ⟨0, _, _, rfl, h⟩

theorem M_scope {b : Code} {k : List Fr} {s : St} {Q : Ex → St → Prop} : M P cfg own dead (.scope b) k s Q = M P cfg own dead b k s Q := rfl

theorem M_seq {a b : Code} {k : List Fr} {s : St} {Q : Ex → St → Prop} : M P cfg own dead (.seq a b) k s Q = M P cfg own dead a (.seq b :: k) s Q := by
  apply propext
  constructor
  · rintro ⟨f, ex, s', h1, h2⟩
    simp only [codeA] at h1
    split at h1
    · rename_i s1 hs
      exact ⟨f, .normal, s1, hs, f, ex, s', h1, h2⟩
    · rename_i hne
      refine ⟨f, ex, s', h1, ?_⟩
      cases ex with
      | normal => exact absurd h1 (hne _)
      | exit i => exact h2
      | ret => exact h2
  · rintro ⟨f, ex, s1, h1, h2⟩
    cases ex with
    | normal =>
      obtain ⟨f', ex, s', h3, h4⟩ := h2
      refine ⟨f + f', ex, s', ?_, h4⟩
      have h3' := code_up (k := f) h3
      rw [Nat.add_comm f' f] at h3'
      simp only [codeA, code_up (k := f') h1, h3']
    | exit i => exact ⟨f, _, s1, by simp only [codeA, h1], h2⟩
    | ret => exact ⟨f, _, s1, by simp only [codeA, h1], h2⟩

theorem M_block {id : Nat} {b : Code} {k : List Fr} {s : St} {Q : Ex → St → Prop} : M P cfg own dead (.block id b) k s Q = M P cfg own dead b (.blk id :: k) s Q := by
  apply propext
  constructor
  · rintro ⟨f, ex, s', h1, h2⟩
    simp only [codeA] at h1
    split at h1
    · rename_i i s1 hs
      refine ⟨f, _, _, hs, ?_⟩
      simp only [kQ]
      split at h1
      · rename_i hi
        simp only [Option.some.injEq, Prod.mk.injEq] at h1
        obtain ⟨rfl, rfl⟩ := h1
        rw [if_pos hi]
        exact h2
      · rename_i hi
        simp only [Option.some.injEq, Prod.mk.injEq] at h1
        obtain ⟨rfl, rfl⟩ := h1
        rw [if_neg hi]
        exact h2
    · rename_i hne
      refine ⟨f, ex, s', h1, ?_⟩
      cases ex with
      | normal => exact h2
      | exit i => exact absurd h1 (hne _ _)
      | ret => exact h2
  · rintro ⟨f, ex, s1, h1, h2⟩
    cases ex with
    | normal => exact ⟨f, _, s1, by simp only [codeA, h1], h2⟩
    | ret => exact ⟨f, _, s1, by simp only [codeA, h1], h2⟩
    | exit i =>
      simp only [kQ] at h2
      split at h2
      · rename_i hi
        exact ⟨f, .normal, s1, by simp only [codeA, h1, hi, if_true], h2⟩
      · rename_i hi
        exact ⟨f, .exit i, s1, by simp only [codeA, h1, hi, if_false], h2⟩

theorem LW_eq {b : Code} {m : Nat} {k : List Fr} {s : St} {Q : Ex → St → Prop} :
    LW P cfg own dead b m s (kQ P cfg own dead k Q) = H P cfg own dead b m k (headA (dead (keyA b)) m s) Q := by
  apply propext
  constructor
  · rintro ⟨f, n, ex, s', h1, h2⟩
    cases n with
    | zero => cases h1
    | succ n =>
      simp only [iterA] at h1
      split at h1
      · rename_i s1 hs
        exact ⟨f, _, _, hs, f, n, ex, s', h1, h2⟩
      · rename_i hne
        refine ⟨f, ex, s', h1, ?_⟩
        cases ex with
        | normal => exact absurd h1 (hne _)
        | exit i => exact h2
        | ret => exact h2
  · rintro ⟨f, ex, s1, h1, h2⟩
    cases ex with
    | normal =>
      obtain ⟨f', n, ex, s', h3, h4⟩ := h2
      refine ⟨f + f', n + 1, ex, s', ?_, h4⟩
      have h3' := iter_up (k := f) (j := 0) h3
      rw [Nat.add_comm f' f] at h3'
      simp only [iterA, code_up (k := f') h1]
      exact h3'
    | exit i => exact ⟨f, 1, _, s1, by simp only [iterA, h1], h2⟩
    | ret => exact ⟨f, 1, _, s1, by simp only [iterA, h1], h2⟩

theorem M_loop {b : Code} {k : List Fr} {s : St} {Q : Ex → St → Prop} : M P cfg own dead (.loop b) k s Q = H P cfg own dead b s.h.length k (headA (dead (keyA b)) s.h.length s) Q := by
  rw [← LW_eq]
  apply propext
  constructor
  · rintro ⟨f, ex, s', h1, h2⟩
    exact ⟨f, f, ex, s', h1, h2⟩
  · rintro ⟨f, n, ex, s', h1, h2⟩
    refine ⟨f + n, ex, s', ?_, h2⟩
    have := iter_up (k := n) (j := f) h1
    rw [Nat.add_comm n f] at this
    exact this

theorem R_seq {b : Code} {k : List Fr} {s : St} {Q : Ex → St → Prop} : R P cfg own dead .normal (.seq b :: k) s Q = M P cfg own dead b k s Q := rfl
theorem R_seq_exit {b : Code} {i : Nat} {k : List Fr} {s : St} {Q : Ex → St → Prop} : R P cfg own dead (.exit i) (.seq b :: k) s Q = R P cfg own dead (.exit i) k s Q := rfl
theorem R_seq_ret {b : Code} {k : List Fr} {s : St} {Q : Ex → St → Prop} : R P cfg own dead .ret (.seq b :: k) s Q = R P cfg own dead .ret k s Q := rfl
theorem R_blk {id : Nat} {k : List Fr} {s : St} {Q : Ex → St → Prop} : R P cfg own dead .normal (.blk id :: k) s Q = R P cfg own dead .normal k s Q := rfl
theorem R_blk_ret {id : Nat} {k : List Fr} {s : St} {Q : Ex → St → Prop} : R P cfg own dead .ret (.blk id :: k) s Q = R P cfg own dead .ret k s Q := rfl
theorem R_blk_exit {i id : Nat} {k : List Fr} {s : St} {Q : Ex → St → Prop} : R P cfg own dead (.exit i) (.blk id :: k) s Q = if i = id then R P cfg own dead .normal k s Q else R P cfg own dead (.exit i) k s Q := rfl
theorem R_lp {b : Code} {m : Nat} {k : List Fr} {s : St} {Q : Ex → St → Prop} : R P cfg own dead .normal (.lp b m :: k) s Q = H P cfg own dead b m k (headA (dead (keyA b)) m s) Q := LW_eq
theorem R_lp_exit {b : Code} {m i : Nat} {k : List Fr} {s : St} {Q : Ex → St → Prop} : R P cfg own dead (.exit i) (.lp b m :: k) s Q = R P cfg own dead (.exit i) k s Q := rfl
theorem R_lp_ret {b : Code} {m : Nat} {k : List Fr} {s : St} {Q : Ex → St → Prop} : R P cfg own dead .ret (.lp b m :: k) s Q = R P cfg own dead .ret k s Q := rfl

/-! ### Conditions -/
theorem set_same {T : List AV} {d : Nat} {v : AV} (h : T.getD d undefA = v) (hv : v ≠ undefA) : T.set d v = T := by
  apply List.ext_getElem?
  intro i
  rw [List.getElem?_set]
  split
  · rename_i hi
    subst hi
    rw [List.getD_eq_getElem?_getD] at h
    cases hx : T[d]? with
    | none => rw [hx] at h; exact absurd h.symm hv
    | some y =>
      rw [hx] at h
      simp only [Option.getD_some] at h
      subst h
      split
      · rfl
      · rename_i hn
        rw [List.getElem?_eq_none (by omega)] at hx
        cases hx
  · rfl

/-- A condition: 'b' is what the slot 'd' holds. -/
def C (P : Program) (cfg : Cfg) (own : Bool) (dead : Nat → List Tmp) (d : Nat) (x y : Code) (k : List Fr) (s : St) (Q : Ex → St → Prop) : AV → Prop
  | .bool b => (b = true → M P cfg own dead x k ⟨s.T.set d (.bool true), s.h⟩ Q) ∧ (b = false → M P cfg own dead y k ⟨s.T.set d (.bool false), s.h⟩ Q)
  | _ => False

theorem C_congr {d : Nat} {x y : Code} {k : List Fr} {s : St} {Q : Ex → St → Prop} {v v' : AV} (h : v = v') : C P cfg own dead d x y k s Q v = C P cfg own dead d x y k s Q v' := by rw [h]

theorem M_cond {d : Nat} {x y : Code} {k : List Fr} {s : St} {Q : Ex → St → Prop} : M P cfg own dead (.cond (.tmp d) x y) k s Q = C P cfg own dead d x y k s Q (s.T.getD d undefA) := by
  have key : ∀ (b : Bool), s.T.getD d undefA = .bool b → (⟨s.T.set d (.bool b), s.h⟩ : St) = s := by
    intro b h
    rw [set_same h (by simp [undefA])]
  apply propext
  constructor
  · rintro ⟨f, ex, s', h1, h2⟩
    simp only [codeA, evA] at h1
    split at h1
    · rename_i t ht
      injection ht with ht
      rw [ht]
      have e := key t ht
      cases t with
      | true => exact ⟨fun _ => (by rw [e]; exact ⟨f, ex, s', by simpa using h1, h2⟩), fun h => (by cases h)⟩
      | false => exact ⟨fun h => (by cases h), fun _ => (by rw [e]; exact ⟨f, ex, s', by simpa using h1, h2⟩)⟩
    · cases h1
  · intro h
    cases hv : s.T.getD d undefA with
    | bool b =>
      rw [hv] at h
      have e := key b hv
      cases b with
      | true =>
        have := h.1 rfl
        rw [e] at this
        obtain ⟨f, ex, s', h1, h2⟩ := this
        exact ⟨f, ex, s', by simp only [codeA, evA, hv, if_true, h1], h2⟩
      | false =>
        have := h.2 rfl
        rw [e] at this
        obtain ⟨f, ex, s', h1, h2⟩ := this
        exact ⟨f, ex, s', by simp only [codeA, evA, hv, Bool.false_eq_true, if_false, h1], h2⟩
    | _ => rw [hv] at h; exact h.elim

theorem M_cond_const {b : Bool} {x y : Code} {k : List Fr} {s : St} {Q : Ex → St → Prop} : M P cfg own dead (.cond (.const (.bool b)) x y) k s Q = if b then M P cfg own dead x k s Q else M P cfg own dead y k s Q := by
  cases b <;> rfl

/-! ### Operations in text order -/
def O (P : Program) (cfg : Cfg) (own : Bool) (dead : Nat → List Tmp) (ops r : List Oper) (s : St) (k : List Fr) (Q : Ex → St → Prop) : Prop :=
  ∃ s1, opsA P cfg (lim P cfg) own ops r s = some s1 ∧ R P cfg own dead .normal k s1 Q

/-- An operation's outcome, and what follows. -/
def OA (P : Program) (cfg : Cfg) (own : Bool) (dead : Nat → List Tmp) (ops r : List Oper) (T : List AV) (dst : Option Tmp) (k : List Fr) (Q : Ex → St → Prop) : Res → Prop
  | some (_, v, h) => O P cfg own dead ops r ⟨putA T dst v, h⟩ k Q
  | none => False

/-- A guarded operation: 'v' is what the guard's slot 'd' holds. -/
def OG (P : Program) (cfg : Cfg) (own : Bool) (dead : Nat → List Tmp) (ops r : List Oper) (o : Oper) (want : Bool) (d : Nat) (s : St) (k : List Fr) (Q : Ex → St → Prop) : AV → Prop
  | .bool b => (b = want → OA P cfg own dead ops r (s.T.set d (.bool want)) o.dst k Q (opA P cfg (lim P cfg) own false ⟨s.T.set d (.bool want), s.h⟩ o.op)) ∧
      (b = !want → O P cfg own dead ops r ⟨putA (s.T.set d (.bool (!want))) o.dst undefA, s.h⟩ k Q)
  | .tup [] => O P cfg own dead ops r ⟨putA s.T o.dst undefA, s.h⟩ k Q
  | _ => False

def OD (P : Program) (cfg : Cfg) (own : Bool) (dead : Nat → List Tmp) (ops r : List Oper) (o : Oper) (want : Bool) (s : St) (k : List Fr) (Q : Ex → St → Prop) : Option Tmp → Prop
  | some d => OG P cfg own dead ops r o want d s k Q (s.T.getD d undefA)
  | none => O P cfg own dead ops r ⟨putA s.T o.dst undefA, s.h⟩ k Q

def OO (P : Program) (cfg : Cfg) (own : Bool) (dead : Nat → List Tmp) (ops r : List Oper) (o : Oper) (s : St) (k : List Fr) (Q : Ex → St → Prop) : Option (Nat × Bool) → Prop
  | none => OA P cfg own dead ops r s.T o.dst k Q (opA P cfg (lim P cfg) own false s o.op)
  | some (j, want) => OD P cfg own dead ops r o want s k Q ((ops[j]?).bind (·.dst))

theorem O_congr {ops r : List Oper} {s s' : St} {k : List Fr} {Q : Ex → St → Prop} (h : s = s') : O P cfg own dead ops r s k Q = O P cfg own dead ops r s' k Q := by rw [h]
theorem OA_congr {ops r : List Oper} {T : List AV} {dst : Option Tmp} {k : List Fr} {Q : Ex → St → Prop} {x x' : Res} (h : x = x') : OA P cfg own dead ops r T dst k Q x = OA P cfg own dead ops r T dst k Q x' := by rw [h]
theorem OG_congr {ops r : List Oper} {o : Oper} {want : Bool} {d : Nat} {s : St} {k : List Fr} {Q : Ex → St → Prop} {x x' : AV} (h : x = x') : OG P cfg own dead ops r o want d s k Q x = OG P cfg own dead ops r o want d s k Q x' := by rw [h]
theorem OD_congr {ops r : List Oper} {o : Oper} {want : Bool} {s : St} {k : List Fr} {Q : Ex → St → Prop} {x x' : Option Tmp} (h : x = x') : OD P cfg own dead ops r o want s k Q x = OD P cfg own dead ops r o want s k Q x' := by rw [h]
theorem OO_congr {ops r : List Oper} {o : Oper} {s : St} {k : List Fr} {Q : Ex → St → Prop} {x x' : Option (Nat × Bool)} (h : x = x') : OO P cfg own dead ops r o s k Q x = OO P cfg own dead ops r o s k Q x' := by rw [h]

theorem M_text {id : Nat} {ops : List Oper} {k : List Fr} {s : St} {Q : Ex → St → Prop} : M P cfg own dead (.region id ⟨ops⟩ false) k s Q = O P cfg own dead ops ops s k Q := by
  apply propext
  constructor
  · rintro ⟨f, ex, s', h1, h2⟩
    simp only [codeA, Bool.false_eq_true, if_false] at h1
    split at h1
    · rename_i s1 hs
      simp only [Option.some.injEq, Prod.mk.injEq] at h1
      obtain ⟨rfl, rfl⟩ := h1
      exact ⟨s1, hs, h2⟩
    · cases h1
  · rintro ⟨s1, h1, h2⟩
    exact ⟨0, .normal, s1, by simp only [codeA, Bool.false_eq_true, if_false, h1], h2⟩

theorem O_nil {ops : List Oper} {s : St} {k : List Fr} {Q : Ex → St → Prop} : O P cfg own dead ops [] s k Q = R P cfg own dead .normal k s Q := by
  apply propext
  constructor
  · rintro ⟨s1, h1, h2⟩
    simp only [opsA, Option.some.injEq] at h1
    subst h1
    exact h2
  · intro h
    exact ⟨s, rfl, h⟩

theorem OA_of {ops r : List Oper} {T : List AV} {dst : Option Tmp} {k : List Fr} {Q : Ex → St → Prop} {x : Res} {y : Option St} (hx : y = match x with | some (_, v, h') => some ⟨putA T dst v, h'⟩ | none => none) :
    (∃ s1, (match y with | some s' => opsA P cfg (lim P cfg) own ops r s' | none => none) = some s1 ∧ R P cfg own dead .normal k s1 Q) = OA P cfg own dead ops r T dst k Q x := by
  subst hx
  cases x with
  | none => apply propext; constructor; rintro ⟨s1, h1, _⟩; cases h1; intro h; exact h.elim
  | some x => rfl

theorem O_cons {ops r : List Oper} {o : Oper} {s : St} {k : List Fr} {Q : Ex → St → Prop} : O P cfg own dead ops (o :: r) s k Q = OO P cfg own dead ops r o s k Q o.guard := by
  unfold O
  simp only [opsA]
  cases hg : o.guard with
  | none =>
    refine OA_of ?_
    simp only [stepA, wantA, hg]
    rfl
  | some g =>
    obtain ⟨j, want⟩ := g
    simp only [OO]
    cases hd : (ops[j]?).bind (·.dst) with
    | none =>
      simp only [stepA, wantA, hg, hd, OD]
      rfl
    | some d =>
      simp only [OD]
      cases hv : s.T.getD d undefA with
      | bool b =>
        have e : s.T.set d (.bool b) = s.T := set_same hv (by simp [undefA])
        simp only [OG]
        by_cases hb : b = want
        · subst hb
          have hst : stepA P cfg (lim P cfg) own ops o s = match opA P cfg (lim P cfg) own false s o.op with | some (_, v, h') => some ⟨putA s.T o.dst v, h'⟩ | none => none := by
            simp only [stepA, wantA, hg, hd, hv, beq_self_eq_true]
            rfl
          rw [hst]
          apply propext
          constructor
          · intro h
            refine ⟨fun _ => ?_, fun h => by cases b <;> cases h⟩
            rw [e]
            rw [← OA_of (y := match opA P cfg (lim P cfg) own false s o.op with | some (_, v, h') => some ⟨putA s.T o.dst v, h'⟩ | none => none) rfl]
            exact h
          · intro h
            have := h.1 rfl
            rw [e] at this
            rw [← OA_of (y := match opA P cfg (lim P cfg) own false s o.op with | some (_, v, h') => some ⟨putA s.T o.dst v, h'⟩ | none => none) rfl] at this
            exact this
        · have hb' : b = !want := by cases b <;> cases want <;> simp at hb ⊢
          have hst : stepA P cfg (lim P cfg) own ops o s = some ⟨putA s.T o.dst undefA, s.h⟩ := by
            have : (b == want) = false := by simp [hb]
            simp only [stepA, wantA, hg, hd, hv, this]
          rw [hst]
          rw [hb'] at e
          apply propext
          constructor
          · intro h
            refine ⟨fun h => absurd h hb, fun _ => ?_⟩
            rw [e]
            exact h
          · intro h
            have := h.2 hb'
            rw [e] at this
            exact this
      | tup l =>
        cases l with
        | nil =>
          simp only [stepA, wantA, hg, hd, hv, OG]
          rfl
        | cons a l =>
          simp only [stepA, wantA, hg, hd, hv, OG]
          simp
      | _ =>
        simp only [stepA, wantA, hg, hd, hv, OG]
        simp

/-! ### Operations in open order -/
def chk (ops : List Oper) (cs : List Cls) : Bool := statOk ops && heapOk ops cs

def D (P : Program) (cfg : Cfg) (own : Bool) (dead : Nat → List Tmp) (ops : List Oper) (r : List (Oper × Option Nat)) (s : St) (cs : List Cls) (k : List Fr) (Q : Ex → St → Prop) : Prop :=
  ∃ cs' s1, opsD P cfg (lim P cfg) ops r s = some (cs', s1) ∧ chk ops (cs ++ cs') = true ∧ R P cfg own dead .normal k s1 Q

def DA (P : Program) (cfg : Cfg) (own : Bool) (dead : Nat → List Tmp) (ops : List Oper) (r : List (Oper × Option Nat)) (T : List AV) (dst : Option Tmp) (cs : List Cls) (k : List Fr) (Q : Ex → St → Prop) : Res → Prop
  | some (c, v, h) => D P cfg own dead ops r ⟨putA T dst v, h⟩ (cs ++ [c]) k Q
  | none => False

def DB (P : Program) (cfg : Cfg) (own : Bool) (dead : Nat → List Tmp) (ops : List Oper) (r : List (Oper × Option Nat)) (T : List AV) (dst : Option Tmp) (cs : List Cls) (j : Nat) (k : List Fr) (Q : Ex → St → Prop) : Option (AV × Heap) → Prop
  | some (v, h) => D P cfg own dead ops r ⟨putA T dst v, h⟩ (cs ++ [.L (some [j])]) k Q
  | none => False

def DG (P : Program) (cfg : Cfg) (own : Bool) (dead : Nat → List Tmp) (ops : List Oper) (r : List (Oper × Option Nat)) (o : Oper) (want : Bool) (d : Nat) (s : St) (cs : List Cls) (k : List Fr) (Q : Ex → St → Prop) : AV → Prop
  | .bool b => (b = want → DA P cfg own dead ops r (s.T.set d (.bool want)) o.dst cs k Q (opA P cfg (lim P cfg) false true ⟨s.T.set d (.bool want), s.h⟩ o.op)) ∧
      (b = !want → D P cfg own dead ops r ⟨putA (s.T.set d (.bool (!want))) o.dst undefA, s.h⟩ (cs ++ [.P]) k Q)
  | .tup [] => D P cfg own dead ops r ⟨putA s.T o.dst undefA, s.h⟩ (cs ++ [.P]) k Q
  | _ => False

def DD (P : Program) (cfg : Cfg) (own : Bool) (dead : Nat → List Tmp) (ops : List Oper) (r : List (Oper × Option Nat)) (o : Oper) (want : Bool) (s : St) (cs : List Cls) (k : List Fr) (Q : Ex → St → Prop) : Option Tmp → Prop
  | some d => DG P cfg own dead ops r o want d s cs k Q (s.T.getD d undefA)
  | none => D P cfg own dead ops r ⟨putA s.T o.dst undefA, s.h⟩ (cs ++ [.P]) k Q

def DO (P : Program) (cfg : Cfg) (own : Bool) (dead : Nat → List Tmp) (ops : List Oper) (r : List (Oper × Option Nat)) (o : Oper) (s : St) (cs : List Cls) (k : List Fr) (Q : Ex → St → Prop) : Option Nat → Option (Nat × Bool) → Prop
  | none, none => DA P cfg own dead ops r s.T o.dst cs k Q (opA P cfg (lim P cfg) false true s o.op)
  | some j, none => DB P cfg own dead ops r s.T o.dst cs j k Q (wakeA P cfg s o.op j)
  | none, some (j, want) => DD P cfg own dead ops r o want s cs k Q ((ops[j]?).bind (·.dst))
  | _, _ => False

theorem D_congr {ops : List Oper} {r : List (Oper × Option Nat)} {s s' : St} {cs cs' : List Cls} {k : List Fr} {Q : Ex → St → Prop} (h : s = s') (hc : cs = cs') : D P cfg own dead ops r s cs k Q = D P cfg own dead ops r s' cs' k Q := by rw [h, hc]
theorem DA_congr {ops : List Oper} {r : List (Oper × Option Nat)} {T : List AV} {dst : Option Tmp} {cs : List Cls} {k : List Fr} {Q : Ex → St → Prop} {x x' : Res} (h : x = x') : DA P cfg own dead ops r T dst cs k Q x = DA P cfg own dead ops r T dst cs k Q x' := by rw [h]
theorem DB_congr {ops : List Oper} {r : List (Oper × Option Nat)} {T : List AV} {dst : Option Tmp} {cs : List Cls} {j : Nat} {k : List Fr} {Q : Ex → St → Prop} {x x' : Option (AV × Heap)} (h : x = x') : DB P cfg own dead ops r T dst cs j k Q x = DB P cfg own dead ops r T dst cs j k Q x' := by rw [h]
theorem DG_congr {ops : List Oper} {r : List (Oper × Option Nat)} {o : Oper} {want : Bool} {d : Nat} {s : St} {cs : List Cls} {k : List Fr} {Q : Ex → St → Prop} {x x' : AV} (h : x = x') : DG P cfg own dead ops r o want d s cs k Q x = DG P cfg own dead ops r o want d s cs k Q x' := by rw [h]
theorem DD_congr {ops : List Oper} {r : List (Oper × Option Nat)} {o : Oper} {want : Bool} {s : St} {cs : List Cls} {k : List Fr} {Q : Ex → St → Prop} {x x' : Option Tmp} (h : x = x') : DD P cfg own dead ops r o want s cs k Q x = DD P cfg own dead ops r o want s cs k Q x' := by rw [h]
theorem DO_congr {ops : List Oper} {r : List (Oper × Option Nat)} {o : Oper} {s : St} {cs : List Cls} {k : List Fr} {Q : Ex → St → Prop} {x x' : Option Nat} {y y' : Option (Nat × Bool)} (h : x = x') (h' : y = y') : DO P cfg own dead ops r o s cs k Q x y = DO P cfg own dead ops r o s cs k Q x' y' := by rw [h, h']

/-- A region in open order begins: 'l' are its operations, with the blocks that are laid ahead. -/
def DI (P : Program) (cfg : Cfg) (own : Bool) (dead : Nat → List Tmp) (ops : List Oper) (s : St) (k : List Fr) (Q : Ex → St → Prop) (l : List (Oper × Option Nat)) : Prop := D P cfg own dead ops l ⟨s.T, preA l s.h⟩ [] k Q

theorem DI_congr {ops : List Oper} {s : St} {k : List Fr} {Q : Ex → St → Prop} {l l' : List (Oper × Option Nat)} (h : l = l') : DI P cfg own dead ops s k Q l = DI P cfg own dead ops s k Q l' := by rw [h]

theorem M_draw' {id : Nat} {ops : List Oper} {k : List Fr} {s : St} {Q : Ex → St → Prop} : M P cfg own dead (.region id ⟨ops⟩ true) k s Q = D P cfg own dead ops (annA cfg ops s.h.length) ⟨s.T, preA (annA cfg ops s.h.length) s.h⟩ [] k Q := by
  apply propext
  constructor
  · rintro ⟨f, ex, s', h1, h2⟩
    simp only [codeA, if_true] at h1
    split at h1
    · rename_i s1 hs
      simp only [Option.some.injEq, Prod.mk.injEq] at h1
      obtain ⟨rfl, rfl⟩ := h1
      simp only [regionD] at hs
      split at hs
      · rename_i cs s2 hD
        split at hs
        · rename_i hc
          injection hs with hs
          subst hs
          exact ⟨cs, s2, hD, hc, h2⟩
        · cases hs
      · cases hs
    · cases h1
  · rintro ⟨cs, s1, h1, hc, h2⟩
    have hc' : (statOk ops && heapOk ops cs) = true := hc
    exact ⟨0, .normal, s1, by simp only [codeA, if_true, regionD, h1, hc'], h2⟩

theorem M_draw {id : Nat} {ops : List Oper} {k : List Fr} {s : St} {Q : Ex → St → Prop} : M P cfg own dead (.region id ⟨ops⟩ true) k s Q = DI P cfg own dead ops s k Q (annA cfg ops s.h.length) := M_draw'

theorem D_nil {ops : List Oper} {s : St} {cs : List Cls} {k : List Fr} {Q : Ex → St → Prop} : D P cfg own dead ops [] s cs k Q = (chk ops cs = true ∧ R P cfg own dead .normal k s Q) := by
  apply propext
  constructor
  · rintro ⟨cs', s1, h1, h2⟩
    simp only [opsD, Option.some.injEq, Prod.mk.injEq] at h1
    obtain ⟨rfl, rfl⟩ := h1
    rw [List.append_nil] at h2
    exact h2
  · intro h
    refine ⟨[], s, rfl, ?_⟩
    rw [List.append_nil]
    exact h

theorem D_of {ops : List Oper} {r : List (Oper × Option Nat)} {o : Oper × Option Nat} {s : St} {cs : List Cls} {k : List Fr} {Q : Ex → St → Prop} :
    D P cfg own dead ops (o :: r) s cs k Q = ∃ c s', stepD P cfg (lim P cfg) ops o s = some (c, s') ∧ D P cfg own dead ops r s' (cs ++ [c]) k Q := by
  apply propext
  constructor
  · rintro ⟨cs', s1, h1, h2⟩
    simp only [opsD] at h1
    split at h1
    · rename_i c s' hs
      split at h1
      · rename_i cs2 s2 hD
        simp only [Option.some.injEq, Prod.mk.injEq] at h1
        obtain ⟨rfl, rfl⟩ := h1
        exact ⟨c, s', hs, cs2, s2, hD, by rw [List.append_assoc]; exact h2⟩
      · cases h1
    · cases h1
  · rintro ⟨c, s', hs, cs2, s2, hD, h2⟩
    refine ⟨c :: cs2, s2, by simp only [opsD, hs, hD], ?_⟩
    rw [List.append_assoc] at h2
    exact h2

theorem DA_of {ops : List Oper} {r : List (Oper × Option Nat)} {T : List AV} {dst : Option Tmp} {cs : List Cls} {k : List Fr} {Q : Ex → St → Prop} {x : Res} {y : Option (Cls × St)} (hx : y = match x with | some (c, v, h') => some (c, ⟨putA T dst v, h'⟩) | none => none) :
    (∃ c s', y = some (c, s') ∧ D P cfg own dead ops r s' (cs ++ [c]) k Q) = DA P cfg own dead ops r T dst cs k Q x := by
  subst hx
  apply propext
  cases x with
  | none =>
    constructor
    · rintro ⟨c, s', h, _⟩
      cases h
    · intro h
      exact h.elim
  | some x =>
    obtain ⟨c, v, h'⟩ := x
    constructor
    · rintro ⟨c', s', h, hd⟩
      simp only [Option.some.injEq, Prod.mk.injEq] at h
      obtain ⟨rfl, rfl⟩ := h
      exact hd
    · intro h
      exact ⟨c, _, rfl, h⟩

theorem D_cons {ops : List Oper} {r : List (Oper × Option Nat)} {o : Oper} {j : Option Nat} {s : St} {cs : List Cls} {k : List Fr} {Q : Ex → St → Prop} (hj : j = none ∨ o.guard = none) : D P cfg own dead ops ((o, j) :: r) s cs k Q = DO P cfg own dead ops r o s cs k Q j o.guard := by
  rw [D_of]
  cases hg : o.guard with
  | none =>
    cases j with
    | none =>
      refine DA_of ?_
      simp only [stepD, wantA, hg]
      rfl
    | some j =>
      simp only [DO]
      have hst : stepD P cfg (lim P cfg) ops (o, some j) s = match wakeA P cfg s o.op j with | some (v, h') => some (.L (some [j]), ⟨putA s.T o.dst v, h'⟩) | none => none := by
        simp only [stepD, wantA, hg]
        rfl
      rw [hst]
      apply propext
      cases wakeA P cfg s o.op j with
      | none =>
        constructor
        · rintro ⟨c, s', h, _⟩
          cases h
        · intro h
          exact h.elim
      | some x =>
        obtain ⟨v, h'⟩ := x
        constructor
        · rintro ⟨c', s', h, hd⟩
          simp only [Option.some.injEq, Prod.mk.injEq] at h
          obtain ⟨rfl, rfl⟩ := h
          exact hd
        · intro h
          exact ⟨_, _, rfl, h⟩
  | some g =>
    obtain ⟨i, want⟩ := g
    have hj : j = none := by
      rcases hj with h | h
      · exact h
      · rw [hg] at h; cases h
    subst hj
    simp only [DO]
    have one : ∀ (x : Cls × St), (∃ c s', some x = some (c, s') ∧ D P cfg own dead ops r s' (cs ++ [c]) k Q) = D P cfg own dead ops r x.2 (cs ++ [x.1]) k Q := by
      intro x
      apply propext
      constructor
      · rintro ⟨c, s', h, hd⟩
        injection h with h
        subst h
        exact hd
      · intro h
        exact ⟨_, _, rfl, h⟩
    cases hd : (ops[i]?).bind (·.dst) with
    | none =>
      simp only [stepD, wantA, hg, hd, DD]
      exact one (.P, _)
    | some d =>
      simp only [DD]
      cases hv : s.T.getD d undefA with
      | bool b =>
        have e : s.T.set d (.bool b) = s.T := set_same hv (by simp [undefA])
        simp only [DG]
        by_cases hb : b = want
        · subst hb
          have hst : stepD P cfg (lim P cfg) ops (o, none) s = match opA P cfg (lim P cfg) false true s o.op with | some (c, v, h') => some (c, ⟨putA s.T o.dst v, h'⟩) | none => none := by
            simp only [stepD, wantA, hg, hd, hv, beq_self_eq_true]
            rfl
          rw [DA_of (T := s.T) (dst := o.dst) hst, e]
          apply propext
          constructor
          · intro h
            exact ⟨fun _ => h, fun h => by cases b <;> cases h⟩
          · intro h
            exact h.1 rfl
        · have hb' : b = !want := by cases b <;> cases want <;> simp at hb ⊢
          have hst : stepD P cfg (lim P cfg) ops (o, none) s = some (.P, ⟨putA s.T o.dst undefA, s.h⟩) := by
            have : (b == want) = false := by simp [hb]
            simp only [stepD, wantA, hg, hd, hv, this]
          rw [hst, one (.P, _)]
          rw [hb'] at e
          rw [e]
          apply propext
          constructor
          · intro h
            exact ⟨fun h => absurd h hb, fun _ => h⟩
          · intro h
            exact h.2 hb'
      | tup l =>
        cases l with
        | nil =>
          simp only [stepD, wantA, hg, hd, hv, DG]
          exact one (.P, _)
        | cons a l =>
          simp only [stepD, wantA, hg, hd, hv, DG]
          simp
      | _ =>
        simp only [stepD, wantA, hg, hd, hv, DG]
        simp

theorem D_cons0 {ops : List Oper} {r : List (Oper × Option Nat)} {o : Oper} {s : St} {cs : List Cls} {k : List Fr} {Q : Ex → St → Prop} : D P cfg own dead ops ((o, none) :: r) s cs k Q = DO P cfg own dead ops r o s cs k Q none o.guard := D_cons (.inl rfl)
theorem D_cons1 {ops : List Oper} {r : List (Oper × Option Nat)} {dst : Option Tmp} {op : Op} {ty : TypeId} {pos : String} {af : Array Edge} {j : Nat} {s : St} {cs : List Cls} {k : List Fr} {Q : Ex → St → Prop} :
    D P cfg own dead ops ((⟨dst, op, ty, pos, af, none⟩, some j) :: r) s cs k Q = DB P cfg own dead ops r s.T dst cs j k Q (wakeA P cfg s op j) := D_cons (.inr rfl)

/-! ### The end -/
def endW (P : Program) (rs : List ResultVar) (φ : RV → Prop) (s : St) : Prop := ∃ r rv, (match mapO (resA P s.T s.h) rs with | some [v] => some v | some vs => some (.tup vs) | none => none) = some r ∧ retP s.h r = some rv ∧ φ rv

def endP (P : Program) (rs : List ResultVar) (φ : RV → Prop) : Ex → St → Prop
  | .exit _, _ => False
  | _, s => endW P rs φ s

def endV (P : Program) (φ : RV → Prop) (h : Heap) : Option AV → Prop
  | some r => ∃ rv, retP h r = some rv ∧ φ rv
  | none => False

def resV : Option (List AV) → Option AV
  | some [v] => some v
  | some vs => some (.tup vs)
  | none => none

theorem R_end {rs : List ResultVar} {φ : RV → Prop} {s : St} : R P cfg own dead .ret [] s (endP P rs φ) = endV P φ s.h (resV (mapO (resA P s.T s.h) rs)) := by
  show endW P rs φ s = _
  unfold endW
  apply propext
  constructor
  · rintro ⟨r, rv, h1, h2⟩
    have : resV (mapO (resA P s.T s.h) rs) = some r := h1
    rw [this]
    exact ⟨rv, h2⟩
  · intro h
    cases hr : resV (mapO (resA P s.T s.h) rs) with
    | none => rw [hr] at h; exact h.elim
    | some r =>
      rw [hr] at h
      obtain ⟨rv, h2⟩ := h
      exact ⟨r, rv, hr, h2⟩

theorem R_end' {rs : List ResultVar} {φ : RV → Prop} {s : St} : R P cfg own dead .normal [] s (endP P rs φ) = endV P φ s.h (resV (mapO (resA P s.T s.h) rs)) := R_end (own := own) (dead := dead) (cfg := cfg)

def endT (P : Program) (rs : List ResultVar) (φ : AV → Heap → Prop) : Ex → St → Prop
  | .exit _, _ => False
  | _, s => ∃ r, resV (mapO (resA P s.T s.h) rs) = some r ∧ φ r s.h

def endU (φ : AV → Heap → Prop) (h : Heap) : Option AV → Prop
  | some r => φ r h
  | none => False

theorem RT_end {rs : List ResultVar} {φ : AV → Heap → Prop} {s : St} : R P cfg own dead .ret [] s (endT P rs φ) = endU φ s.h (resV (mapO (resA P s.T s.h) rs)) := by
  show (∃ r, resV (mapO (resA P s.T s.h) rs) = some r ∧ φ r s.h) = _
  apply propext
  cases resV (mapO (resA P s.T s.h) rs) with
  | none =>
    constructor
    · rintro ⟨r, h, _⟩
      cases h
    · intro h
      exact h.elim
  | some r =>
    constructor
    · rintro ⟨r', h, h2⟩
      injection h with h
      subst h
      exact h2
    · intro h
      exact ⟨r, rfl, h⟩

theorem RT_end' {rs : List ResultVar} {φ : AV → Heap → Prop} {s : St} : R P cfg own dead .normal [] s (endT P rs φ) = endU φ s.h (resV (mapO (resA P s.T s.h) rs)) := RT_end (own := own) (dead := dead) (cfg := cfg)

theorem pure_start {f : FuncId} {fn : Func} {c : Code} {xs : List AV} {rs : List ResultVar} {φ : RV → Prop} (hf : cfg.fns f = some fn) (hb : fn.body = some c) (hr : fn.results.toList = rs)
    (h : M P cfg (cfg.lit f) (cfg.live f) c [] ⟨xs ++ List.replicate (fn.ntmps - xs.length) undefA, []⟩ (endP P rs φ)) : ∃ rv, (lim P cfg).p f xs = some rv ∧ φ rv := by
  obtain ⟨fuel, ex, s', h1, h2⟩ := h
  subst hr
  have key : endW P fn.results.toList φ s' → (ex = .normal ∨ ex = .ret) → ∃ rv, (lim P cfg).p f xs = some rv ∧ φ rv := by
    rintro ⟨r, rv, h3, h4, h5⟩ hex
    refine ⟨rv, lim_of_pure (fuel := fuel) ?_, h5⟩
    have h3' : resultsA P fn s'.T s'.h = some r := h3
    rcases hex with rfl | rfl <;> simp only [pureA, hf, bodyA, hb, h1, h3', h4]
  cases ex with
  | normal => exact key h2 (.inl rfl)
  | ret => exact key h2 (.inr rfl)
  | exit i => exact h2.elim

theorem pure_exact {f : FuncId} {fn : Func} {c : Code} {xs : List AV} {rs : List ResultVar} {rv : RV} (hf : cfg.fns f = some fn) (hb : fn.body = some c) (hr : fn.results.toList = rs)
    (h : M P cfg (cfg.lit f) (cfg.live f) c [] ⟨xs ++ List.replicate (fn.ntmps - xs.length) undefA, []⟩ (endP P rs (fun r => r = rv))) : (lim P cfg).p f xs = some rv := by
  obtain ⟨rv', h1, rfl⟩ := pure_start hf hb hr h
  exact h1

theorem thr_start {f : FuncId} {fn : Func} {c : Code} {xs : List AV} {h0 : Heap} {rs : List ResultVar} {φ : AV → Heap → Prop} (hf : cfg.fns f = some fn) (hb : fn.body = some c) (hr : fn.results.toList = rs)
    (h : M P cfg (cfg.lit f) (cfg.live f) c [] ⟨xs ++ List.replicate (fn.ntmps - xs.length) undefA, h0⟩ (endT P rs φ)) : ∃ r h', (lim P cfg).t f xs h0 = some (r, h') ∧ φ r h' := by
  obtain ⟨fuel, ex, s', h1, h2⟩ := h
  subst hr
  have key : (∃ r, resV (mapO (resA P s'.T s'.h) fn.results.toList) = some r ∧ φ r s'.h) → (ex = .normal ∨ ex = .ret) → ∃ r h', (lim P cfg).t f xs h0 = some (r, h') ∧ φ r h' := by
    rintro ⟨r, h3, h5⟩ hex
    refine ⟨r, s'.h, lim_of_thr (fuel := fuel) ?_, h5⟩
    have h3' : resultsA P fn s'.T s'.h = some r := h3
    rcases hex with rfl | rfl <;> simp only [thrA, hf, bodyA, hb, h1, h3']
  cases ex with
  | normal => exact key h2 (.inl rfl)
  | ret => exact key h2 (.inr rfl)
  | exit i => exact h2.elim

/-- A loop: 'st a' is the state at its head; each round leads to a smaller a or out. -/
theorem H_ind {α : Type} {b : Code} {m : Nat} {k : List Fr} {s : St} {Q : Ex → St → Prop} (st : α → St) (Pre : α → Prop) (μ : α → Nat) (a0 : α) (hs : s = st a0) (h0 : Pre a0)
    (step : ∀ a, Pre a → (∀ a', μ a' < μ a → Pre a' → H P cfg own dead b m k (st a') Q) → M P cfg own dead b (.lp b m :: k) (st a) Q) : H P cfg own dead b m k s Q := by
  subst hs
  have key : ∀ n a, μ a = n → Pre a → H P cfg own dead b m k (st a) Q := by
    intro n
    induction n using Nat.strongRecOn with
    | ind n ih =>
      intro a ha hp
      exact step a hp (fun a' hlt hp' => ih (μ a') (by omega) a' rfl hp')
  exact key _ a0 rfl h0

/-! ### Results, calls -/
theorem vsnap_val {h : Heap} {ex : Option Nat} {d : Nat} {v : AV} (hv : c1 v = true) : snap h ex (d + 1) v = some v := by
  cases v <;> first | (simp [c1] at hv; done) | (simp only [snap, hv, if_true])

theorem vsnap_vals {h : Heap} {ex : Option Nat} {d : Nat} : ∀ {l : List AV}, l.all c1 = true → mapO (snap h ex (d + 1)) l = some l
  | [], _ => rfl
  | x :: l, hl => by
    simp only [List.all_cons, Bool.and_eq_true] at hl
    simp only [mapO, vsnap_val hl.1, vsnap_vals hl.2]

theorem vsnap_closed {h : Heap} {ex : Option Nat} {d : Nat} {v : AV} (hv : closed v = true) : snap h ex (d + 2) v = some v := by
  cases v with
  | agg l =>
    have hl : l.all c1 = true := hv
    show (match mapO (snap h ex (d + 1)) l with | some l' => if l'.all c1 then some (AV.agg l') else none | none => none) = some (AV.agg l)
    rw [vsnap_vals hl]
    simp only [hl, if_true]
  | _ => exact vsnap_val hv

theorem vfresh_none {h : Heap} {ex : Option Nat} {v : AV} (hv : closed v = true) : compsA.freshA h ex v = none := by
  cases v <;> first | rfl | (simp [closed, c1] at hv)

theorem vcomps_closed {h : Heap} {ex : Option Nat} : ∀ {b : Bool} {l : List AV}, l.all closed = true → compsA h ex b l = some (l.map .val)
  | _, [], _ => by simp only [compsA, List.map_nil]
  | b, x :: l, hl => by
    simp only [List.all_cons, Bool.and_eq_true] at hl
    have e : (if b then none else compsA.freshA h ex x) = none := by cases b <;> simp [vfresh_none hl.1]
    simp only [compsA, e, depthA, vsnap_closed hl.1, vcomps_closed hl.2, List.map_cons]

theorem vret_closed {h : Heap} {v : AV} (hv : closed v = true) : retP h v = some (.one (.val v)) := by
  have h1 : [v].all closed = true := by simp [hv]
  cases v with
  | tup l => simp [closed, c1] at hv
  | _ => simp only [retP, vcomps_closed h1, List.map_cons, List.map_nil]

theorem ret_bool {h : Heap} {b : Bool} : retP h (.bool b) = some (.one (.val (.bool b))) := vret_closed rfl
theorem ret_int {h : Heap} {k : IntKind} {n : Int} : retP h (.int k n) = some (.one (.val (.int k n))) := vret_closed rfl
theorem ret_str {h : Heap} {b : ByteArray} : retP h (.str b) = some (.one (.val (.str b))) := vret_closed rfl
theorem ret_nil {h : Heap} : retP h .nilsl = some (.one (.val .nilsl)) := vret_closed rfl
theorem ret_imm {h : Heap} {t : Bool} {n : Nat} {l : List AV} : retP h (.imm t n l) = some (.one (.val (.imm t n l))) := vret_closed rfl
theorem ret_agg {h : Heap} {l : List AV} (hl : l.all c1 = true) : retP h (.agg l) = some (.one (.val (.agg l))) := vret_closed hl
theorem ret_unit {h : Heap} : retP h (.tup []) = some (.many []) := rfl
theorem ret_tup {h : Heap} {l : List AV} (hl : l.all closed = true) : retP h (.tup l) = some (.many (l.map .val)) := by
  simp only [retP, vcomps_closed hl]

/-- What a call gives, from what the limit tells. -/
def cR (cfg : Cfg) (draw : Bool) (f : FuncId) (h : Heap) : Option RV → Res
  | some rv => some (callR cfg draw f rv h)
  | none => none

theorem callA_S {f : FuncId} {caps as : List AV} {draw : Bool} {h : Heap} (hf : (cfg.fns f).isSome = true) (ht : cfg.thr f = false) (hc : (as ++ caps).all closed = true) :
    callA cfg (lim P cfg) draw (.fn f caps) as h = cR cfg draw f h ((lim P cfg).p f (as ++ caps)) := by
  obtain ⟨fn, hf⟩ := Option.isSome_iff_exists.1 hf
  simp only [callA, hf, ht, Bool.false_eq_true, if_false, hc, if_true]
  cases (lim P cfg).p f (as ++ caps) <;> rfl

theorem callR_val {draw : Bool} {f : FuncId} {v : AV} {h : Heap} : callR cfg draw f (.one (.val v)) h = (.P, v, h) := by
  simp [callR, RV.isFresh, Comp.isFresh, RV.imm, Comp.imm]

theorem callR_many {draw : Bool} {f : FuncId} {l : List AV} {h : Heap} : callR cfg draw f (.many (l.map .val)) h = (.P, .tup l, h) := by
  have : (l.map Comp.val).any Comp.isFresh = false := by
    rw [List.any_eq_false]
    intro c hc
    obtain ⟨x, _, rfl⟩ := List.mem_map.1 hc
    simp [Comp.isFresh]
  have e : (l.map Comp.val).map Comp.imm = l := by
    rw [List.map_map]
    conv => rhs; rw [← List.map_id l]
    rfl
  simp only [callR, RV.isFresh, this, Bool.and_false, Bool.false_eq_true, if_false, RV.imm, e]

/-! ### The collector at values alone -/
theorem namesA_c1 {x : AV} (h : c1 x = true) : namesA x = [] := by cases x <;> first | rfl | (simp [c1] at h)
theorem names1_c1 {x : AV} (h : c1 x = true) : names1 x = [] := by
  cases x with
  | fn f caps =>
    have : caps = [] := by simpa [c1] using h
    subst this
    rfl
  | _ => simp only [names1]; exact namesA_c1 h
theorem names_all {l : List AV} (h : l.all c1 = true) : l.flatMap names1 = [] := by
  rw [List.flatMap_eq_nil_iff]
  intro x hx
  exact names1_c1 (List.all_eq_true.1 h x hx)
theorem namesV_closed {x : AV} (h : closed x = true) : namesV x = [] := by
  cases x with
  | agg l => exact names_all h
  | tup l => simp [closed, c1] at h
  | _ => simp only [namesV]; exact names1_c1 h
theorem ren0_c1 {ρ : Nat → Nat → Option (Nat × Nat)} {x : AV} (h : c1 x = true) : ren0 ρ x = some x := by
  cases x <;> first | (simp [c1] at h; done) | (simp only [ren0, h, if_true])
theorem ren1_c1 {ρ : Nat → Nat → Option (Nat × Nat)} {x : AV} (h : c1 x = true) : ren1 ρ x = some x := by
  cases x with
  | fn f caps =>
    have : caps = [] := by simpa [c1] using h
    subst this
    rfl
  | _ => simp only [ren1]; exact ren0_c1 h
theorem ren_all {ρ : Nat → Nat → Option (Nat × Nat)} : ∀ {l : List AV}, l.all c1 = true → mapO (ren1 ρ) l = some l
  | [], _ => rfl
  | x :: l, h => by
    simp only [List.all_cons, Bool.and_eq_true] at h
    simp only [mapO, ren1_c1 h.1, ren_all h.2]
theorem renV_closed {ρ : Nat → Nat → Option (Nat × Nat)} {x : AV} (h : closed x = true) : renV ρ x = some x := by
  cases x with
  | agg l => simp only [renV, ren_all (show l.all c1 = true from h)]
  | tup l => simp [closed, c1] at h
  | any => rfl
  | _ => simp only [renV]; exact ren1_c1 h
theorem closed_c1 {x : AV} (h : c1 x = true) : closed x = true := by
  cases x <;> first | exact h | (simp [c1] at h)

theorem mapO_same {f : AV → Option AV} (hf : ∀ x y, f x = some y → y = x) : ∀ {l l' : List AV}, mapO f l = some l' → l' = l
  | [], l', h => by simpa [mapO] using h.symm
  | x :: l, l', h => by
    simp only [mapO] at h
    split at h
    · cases h
    · rename_i y hy
      split at h
      · cases h
      · rename_i ys hys
        injection h with h
        rw [← h, hf x y hy, mapO_same hf hys]

theorem ren0_same {ρ : Nat → Nat → Option (Nat × Nat)} (hρ : ∀ b v p, ρ b v = some p → p = (b, v)) {x y : AV} (h : ren0 ρ x = some y) : y = x := by
  have cl : (if c1 x then some x else none) = some y → y = x := by
    intro h
    split at h
    · injection h with h
      exact h.symm
    · cases h
  cases x with
  | own b v off n sz =>
    simp only [ren0] at h
    split at h
    · rename_i b' v' hr
      have := hρ _ _ _ hr
      simp only [Prod.mk.injEq] at this
      obtain ⟨rfl, rfl⟩ := this
      injection h with h
      exact h.symm
    · cases h
  | ptr b v off =>
    simp only [ren0] at h
    split at h
    · rename_i b' v' hr
      have := hρ _ _ _ hr
      simp only [Prod.mk.injEq] at this
      obtain ⟨rfl, rfl⟩ := this
      injection h with h
      exact h.symm
    · cases h
  | _ => exact cl h

theorem ren1_same {ρ : Nat → Nat → Option (Nat × Nat)} (hρ : ∀ b v p, ρ b v = some p → p = (b, v)) {x y : AV} (h : ren1 ρ x = some y) : y = x := by
  cases x with
  | fn f caps =>
    simp only [ren1] at h
    split at h
    · rename_i l hl
      injection h with h
      rw [← h, mapO_same (fun x y h => ren0_same hρ h) hl]
    · cases h
  | _ => simp only [ren1] at h; exact ren0_same hρ h

theorem renV_same {ρ : Nat → Nat → Option (Nat × Nat)} (hρ : ∀ b v p, ρ b v = some p → p = (b, v)) {x y : AV} (h : renV ρ x = some y) : y = x := by
  cases x with
  | agg l =>
    simp only [renV] at h
    split at h
    · rename_i l' hl
      injection h with h
      rw [← h, mapO_same (fun x y h => ren1_same hρ h) hl]
    · cases h
  | tup l =>
    simp only [renV] at h
    split at h
    · rename_i l' hl
      injection h with h
      rw [← h, mapO_same (fun x y h => ren1_same hρ h) hl]
    · cases h
  | any => simpa [renV] using h.symm
  | _ => simp only [renV] at h; exact ren1_same hρ h

/-- No heap: nothing to collect. -/
theorem gcA_nil {m : Nat} {T : List AV} : gcA m ⟨T, []⟩ = ⟨T, []⟩ := by
  unfold gcA gcWith
  generalize idsA _ _ _ = ids
  split
  · rename_i T' h1 h2 e1 e2 e3
    split
    · have hρ : ∀ b v p, rhoA [] m ids b v = some p → p = (b, v) := by
        intro b v p h
        unfold rhoA at h
        split at h
        · injection h with h
          exact h.symm
        · simp [hget] at h
      have e := mapO_same (fun x y h => renV_same hρ h) e1
      have : ids = [] := by
        cases ids with
        | nil => rfl
        | cons b r => simp [mapO, keepB] at e3
      subst this
      simp only [List.take_nil, mapO, Option.some.injEq] at e2 e3
      subst e2 e3
      rw [e]
      rfl
    · rfl
  · rfl

theorem nV_int (k : IntKind) (n : Int) : namesV (.int k n) = [] := rfl
theorem n1_int (k : IntKind) (n : Int) : names1 (.int k n) = [] := rfl
theorem rV_int (k : IntKind) (n : Int) {ρ : Nat → Nat → Option (Nat × Nat)} : renV ρ (.int k n) = some (.int k n) := rfl
theorem r1_int (k : IntKind) (n : Int) {ρ : Nat → Nat → Option (Nat × Nat)} : ren1 ρ (.int k n) = some (.int k n) := rfl
theorem nV_bool (b : Bool) : namesV (.bool b) = [] := rfl
theorem n1_bool (b : Bool) : names1 (.bool b) = [] := rfl
theorem rV_bool (b : Bool) {ρ : Nat → Nat → Option (Nat × Nat)} : renV ρ (.bool b) = some (.bool b) := rfl
theorem r1_bool (b : Bool) {ρ : Nat → Nat → Option (Nat × Nat)} : ren1 ρ (.bool b) = some (.bool b) := rfl
theorem nV_str (b : ByteArray) : namesV (.str b) = [] := rfl
theorem n1_str (b : ByteArray) : names1 (.str b) = [] := rfl
theorem rV_str (b : ByteArray) {ρ : Nat → Nat → Option (Nat × Nat)} : renV ρ (.str b) = some (.str b) := rfl
theorem r1_str (b : ByteArray) {ρ : Nat → Nat → Option (Nat × Nat)} : ren1 ρ (.str b) = some (.str b) := rfl
theorem nV_nilsl  : namesV (.nilsl) = [] := rfl
theorem n1_nilsl  : names1 (.nilsl) = [] := rfl
theorem rV_nilsl  {ρ : Nat → Nat → Option (Nat × Nat)} : renV ρ (.nilsl) = some (.nilsl) := rfl
theorem r1_nilsl  {ρ : Nat → Nat → Option (Nat × Nat)} : ren1 ρ (.nilsl) = some (.nilsl) := rfl
theorem nV_imm (t : Bool) (n : Nat) (l : List AV) : namesV (.imm t n l) = [] := rfl
theorem n1_imm (t : Bool) (n : Nat) (l : List AV) : names1 (.imm t n l) = [] := rfl
theorem rV_imm (t : Bool) (n : Nat) (l : List AV) {ρ : Nat → Nat → Option (Nat × Nat)} : renV ρ (.imm t n l) = some (.imm t n l) := rfl
theorem r1_imm (t : Bool) (n : Nat) (l : List AV) {ρ : Nat → Nat → Option (Nat × Nat)} : ren1 ρ (.imm t n l) = some (.imm t n l) := rfl
theorem nV_iptr (l : List AV) : namesV (.iptr l) = [] := rfl
theorem n1_iptr (l : List AV) : names1 (.iptr l) = [] := rfl
theorem rV_iptr (l : List AV) {ρ : Nat → Nat → Option (Nat × Nat)} : renV ρ (.iptr l) = some (.iptr l) := rfl
theorem r1_iptr (l : List AV) {ρ : Nat → Nat → Option (Nat × Nat)} : ren1 ρ (.iptr l) = some (.iptr l) := rfl
theorem nV_nilptr  : namesV (.nilptr) = [] := rfl
theorem n1_nilptr  : names1 (.nilptr) = [] := rfl
theorem rV_nilptr  {ρ : Nat → Nat → Option (Nat × Nat)} : renV ρ (.nilptr) = some (.nilptr) := rfl
theorem r1_nilptr  {ρ : Nat → Nat → Option (Nat × Nat)} : ren1 ρ (.nilptr) = some (.nilptr) := rfl
theorem nV_fn0 (f : FuncId) : namesV (.fn f []) = [] := rfl
theorem n1_fn0 (f : FuncId) : names1 (.fn f []) = [] := rfl
theorem rV_fn0 (f : FuncId) {ρ : Nat → Nat → Option (Nat × Nat)} : renV ρ (.fn f []) = some (.fn f []) := rfl
theorem r1_fn0 (f : FuncId) {ρ : Nat → Nat → Option (Nat × Nat)} : ren1 ρ (.fn f []) = some (.fn f []) := rfl
theorem nV_nilfn  : namesV (.nilfn) = [] := rfl
theorem n1_nilfn  : names1 (.nilfn) = [] := rfl
theorem rV_nilfn  {ρ : Nat → Nat → Option (Nat × Nat)} : renV ρ (.nilfn) = some (.nilfn) := rfl
theorem r1_nilfn  {ρ : Nat → Nat → Option (Nat × Nat)} : ren1 ρ (.nilfn) = some (.nilfn) := rfl
theorem nV_nilif  : namesV (.nilif) = [] := rfl
theorem n1_nilif  : names1 (.nilif) = [] := rfl
theorem rV_nilif  {ρ : Nat → Nat → Option (Nat × Nat)} : renV ρ (.nilif) = some (.nilif) := rfl
theorem r1_nilif  {ρ : Nat → Nat → Option (Nat × Nat)} : ren1 ρ (.nilif) = some (.nilif) := rfl
theorem nV_any : namesV .any = [] := rfl
theorem rV_any {ρ : Nat → Nat → Option (Nat × Nat)} : renV ρ .any = some .any := rfl
theorem nV_own {b v off n sz : Nat} : namesV (.own b v off n sz) = [b] := rfl
theorem n1_own {b v off n sz : Nat} : names1 (.own b v off n sz) = [b] := rfl
theorem nV_ptr {b v off : Nat} : namesV (.ptr b v off) = [b] := rfl
theorem n1_ptr {b v off : Nat} : names1 (.ptr b v off) = [b] := rfl
theorem nV_undef : namesV undefA = [] := rfl
theorem rV_undef {ρ : Nat → Nat → Option (Nat × Nat)} : renV ρ undefA = some undefA := rfl
def own? (off n sz : Nat) : Option (Nat × Nat) → Option AV
  | some (b, v) => some (.own b v off n sz)
  | none => none
def ptr? (off : Nat) : Option (Nat × Nat) → Option AV
  | some (b, v) => some (.ptr b v off)
  | none => none
theorem rV_own {ρ : Nat → Nat → Option (Nat × Nat)} {b v off n sz : Nat} : renV ρ (.own b v off n sz) = own? off n sz (ρ b v) := by
  show (match ρ b v with | some (b', v') => some (AV.own b' v' off n sz) | none => none) = _
  cases ρ b v <;> rfl
theorem r1_own {ρ : Nat → Nat → Option (Nat × Nat)} {b v off n sz : Nat} : ren1 ρ (.own b v off n sz) = own? off n sz (ρ b v) := rV_own
theorem rV_ptr {ρ : Nat → Nat → Option (Nat × Nat)} {b v off : Nat} : renV ρ (.ptr b v off) = ptr? off (ρ b v) := by
  show (match ρ b v with | some (b', v') => some (AV.ptr b' v' off) | none => none) = _
  cases ρ b v <;> rfl
theorem r1_ptr {ρ : Nat → Nat → Option (Nat × Nat)} {b v off : Nat} : ren1 ρ (.ptr b v off) = ptr? off (ρ b v) := rV_ptr
theorem cl_int (k : IntKind) (n : Int) : closed (.int k n) = true := rfl
theorem cl_bool (b : Bool) : closed (.bool b) = true := rfl
theorem cl_str (b : ByteArray) : closed (.str b) = true := rfl
theorem cl_nilsl  : closed (.nilsl) = true := rfl
theorem cl_imm (t : Bool) (n : Nat) (l : List AV) : closed (.imm t n l) = true := rfl
theorem cl_iptr (l : List AV) : closed (.iptr l) = true := rfl
theorem cl_nilptr  : closed (.nilptr) = true := rfl
theorem cl_fn0 (f : FuncId) : closed (.fn f []) = true := rfl
theorem cl_nilfn  : closed (.nilfn) = true := rfl
theorem cl_nilif  : closed (.nilif) = true := rfl
theorem ca_int (k : IntKind) (n : Int) : c1 (.int k n) = true := rfl
theorem ca_bool (b : Bool) : c1 (.bool b) = true := rfl
theorem ca_str (b : ByteArray) : c1 (.str b) = true := rfl
theorem ca_nilsl  : c1 (.nilsl) = true := rfl
theorem ca_imm (t : Bool) (n : Nat) (l : List AV) : c1 (.imm t n l) = true := rfl
theorem ca_iptr (l : List AV) : c1 (.iptr l) = true := rfl
theorem ca_nilptr  : c1 (.nilptr) = true := rfl
theorem ca_fn0 (f : FuncId) : c1 (.fn f []) = true := rfl
theorem ca_nilfn  : c1 (.nilfn) = true := rfl
theorem ca_nilif  : c1 (.nilif) = true := rfl
theorem gcA_cons {m : Nat} {T : List AV} {k : Blk} {h : Heap} : gcA m ⟨T, k :: h⟩ = gcWith m ⟨T, k :: h⟩ (idsA (k :: h) m T) := rfl

/-! ### The rules, case by case -/
/-- A parting of ways: only the condition is looked into till it is known. -/
def br (b : Bool) (A B : Prop) : Prop := (b = true → A) ∧ (b = false → B)
theorem br_congr {b b' : Bool} {A B : Prop} (h : b = b') : br b A B = br b' A B := by rw [h]
theorem br_true {A B : Prop} : br true A B = A := by simp [br]
theorem br_false {A B : Prop} : br false A B = B := by simp [br]
theorem br_split {b : Bool} {A B : Prop} (h1 : b = true → A) (h2 : b = false → B) : br b A B := ⟨h1, h2⟩
theorem br_want {b want : Bool} {A B : Prop} : ((b = want → A) ∧ (b = !want → B)) = br (b == want) A B := by
  cases b <;> cases want <;> simp [br]
section
variable {ops r : List Oper} {o : Oper} {k : List Fr} {Q : Ex → St → Prop} {s : St} {T : List AV} {dst : Option Tmp} {want b : Bool} {d j : Nat} {rd : List (Oper × Option Nat)} {cs : List Cls} {c : Cls} {v : AV} {h : Heap} {x y : Code}
theorem OA_some : OA P cfg own dead ops r T dst k Q (some (c, v, h)) = O P cfg own dead ops r ⟨putA T dst v, h⟩ k Q := rfl
theorem OA_none : OA P cfg own dead ops r T dst k Q none = False := rfl
theorem OG_bool : OG P cfg own dead ops r o want d s k Q (.bool b) = br (b == want) (OA P cfg own dead ops r (s.T.set d (.bool want)) o.dst k Q (opA P cfg (lim P cfg) own false ⟨s.T.set d (.bool want), s.h⟩ o.op))
      (O P cfg own dead ops r ⟨putA (s.T.set d (.bool (!want))) o.dst undefA, s.h⟩ k Q) := br_want
theorem OG_undef : OG P cfg own dead ops r o want d s k Q undefA = O P cfg own dead ops r ⟨putA s.T o.dst undefA, s.h⟩ k Q := rfl
theorem OD_some : OD P cfg own dead ops r o want s k Q (some d) = OG P cfg own dead ops r o want d s k Q (s.T.getD d undefA) := rfl
theorem OD_none : OD P cfg own dead ops r o want s k Q none = O P cfg own dead ops r ⟨putA s.T o.dst undefA, s.h⟩ k Q := rfl
theorem OO_none : OO P cfg own dead ops r o s k Q none = OA P cfg own dead ops r s.T o.dst k Q (opA P cfg (lim P cfg) own false s o.op) := rfl
theorem OO_some : OO P cfg own dead ops r o s k Q (some (j, want)) = OD P cfg own dead ops r o want s k Q ((ops[j]?).bind (·.dst)) := rfl
theorem DA_some : DA P cfg own dead ops rd T dst cs k Q (some (c, v, h)) = D P cfg own dead ops rd ⟨putA T dst v, h⟩ (cs ++ [c]) k Q := rfl
theorem DA_none : DA P cfg own dead ops rd T dst cs k Q none = False := rfl
theorem DB_some : DB P cfg own dead ops rd T dst cs j k Q (some (v, h)) = D P cfg own dead ops rd ⟨putA T dst v, h⟩ (cs ++ [.L (some [j])]) k Q := rfl
theorem DG_bool : DG P cfg own dead ops rd o want d s cs k Q (.bool b) = br (b == want) (DA P cfg own dead ops rd (s.T.set d (.bool want)) o.dst cs k Q (opA P cfg (lim P cfg) false true ⟨s.T.set d (.bool want), s.h⟩ o.op))
      (D P cfg own dead ops rd ⟨putA (s.T.set d (.bool (!want))) o.dst undefA, s.h⟩ (cs ++ [.P]) k Q) := br_want
theorem DG_undef : DG P cfg own dead ops rd o want d s cs k Q undefA = D P cfg own dead ops rd ⟨putA s.T o.dst undefA, s.h⟩ (cs ++ [.P]) k Q := rfl
theorem DD_some : DD P cfg own dead ops rd o want s cs k Q (some d) = DG P cfg own dead ops rd o want d s cs k Q (s.T.getD d undefA) := rfl
theorem DD_none : DD P cfg own dead ops rd o want s cs k Q none = D P cfg own dead ops rd ⟨putA s.T o.dst undefA, s.h⟩ (cs ++ [.P]) k Q := rfl
theorem DO_nn : DO P cfg own dead ops rd o s cs k Q none none = DA P cfg own dead ops rd s.T o.dst cs k Q (opA P cfg (lim P cfg) false true s o.op) := rfl
theorem DO_jn : DO P cfg own dead ops rd o s cs k Q (some j) none = DB P cfg own dead ops rd s.T o.dst cs j k Q (wakeA P cfg s o.op j) := rfl
theorem DO_ng : DO P cfg own dead ops rd o s cs k Q none (some (j, want)) = DD P cfg own dead ops rd o want s cs k Q ((ops[j]?).bind (·.dst)) := rfl
theorem C_bool : C P cfg own dead d x y k s Q (.bool b) = br b (M P cfg own dead x k ⟨s.T.set d (.bool true), s.h⟩ Q) (M P cfg own dead y k ⟨s.T.set d (.bool false), s.h⟩ Q) := rfl
theorem DI_eq {l : List (Oper × Option Nat)} : DI P cfg own dead ops s k Q l = D P cfg own dead ops l ⟨s.T, preA l s.h⟩ [] k Q := rfl
theorem endV_some {φ : RV → Prop} : endV P φ h (some v) = ∃ rv, retP h v = some rv ∧ φ rv := rfl
theorem endU_some {φ : AV → Heap → Prop} : endU φ h (some v) = φ v h := rfl
theorem resV_one : resV (some [v]) = some v := rfl
theorem resV_nil : resV (some []) = some (.tup []) := rfl
theorem resV_two {a e : AV} {l : List AV} : resV (some (a :: e :: l)) = some (.tup (a :: e :: l)) := rfl
theorem cR_some {f : FuncId} {draw : Bool} {rv : RV} : cR cfg draw f h (some rv) = some (callR cfg draw f rv h) := rfl

/-! ### One operation -/
def isCV : Op → Bool
  | .call { callee := .value _, args := _, argTypes := _ } => true
  | _ => false
def o3 (P : Program) (s : St) (op : Op) : Option (AV × Heap) → Res
  | some (v, h') => some (.L (footL (evA s.T) op), v, h')
  | none => none
def o2 (P : Program) (s : St) (op : Op) : Option AV → Res
  | some v => some (.C (some (footC (evA s.T) op)), v, s.h)
  | none => o3 P s op (opL P (evA s.T) s.h op)
def o1 (P : Program) (s : St) (op : Op) : Option AV → Res
  | some v => some (.P, v, s.h)
  | none => o2 P s op (opC P (evA s.T) s.h op)
theorem o1_congr {op : Op} {x x' : Option AV} (h : x = x') : o1 P s op x = o1 P s op x' := by rw [h]
theorem o2_congr {op : Op} {x x' : Option AV} (h : x = x') : o2 P s op x = o2 P s op x' := by rw [h]
theorem o3_congr {op : Op} {x x' : Option (AV × Heap)} (h : x = x') : o3 P s op x = o3 P s op x' := by rw [h]
theorem o1_some {op : Op} : o1 P s op (some v) = some (.P, v, s.h) := rfl
theorem o1_none {op : Op} : o1 P s op none = o2 P s op (opC P (evA s.T) s.h op) := rfl
theorem o2_some {op : Op} : o2 P s op (some v) = some (.C (some (footC (evA s.T) op)), v, s.h) := rfl
theorem o2_none {op : Op} : o2 P s op none = o3 P s op (opL P (evA s.T) s.h op) := rfl
theorem o3_some {op : Op} : o3 P s op (some (v, h)) = some (.L (footL (evA s.T) op), v, h) := rfl
theorem o3_none {op : Op} : o3 P s op none = none := rfl
theorem opA_op {orc : Orc} {draw : Bool} {op : Op} (hc : isCV op = false) : opA P cfg orc own draw s op = o1 P s op (opP P own (evA s.T) op) := by
  unfold opA
  split
  · simp [isCV] at hc
  · unfold o1 o2 o3
    cases opP P own (evA s.T) op with
    | some v => rfl
    | none =>
      simp only
      cases opC P (evA s.T) s.h op with
      | some v => rfl
      | none =>
        simp only
        cases opL P (evA s.T) s.h op <;> rfl
/-- A call: the function and its arguments. -/
def oC (cfg : Cfg) (orc : Orc) (draw : Bool) (h : Heap) : Option AV → Option (List AV) → Res
  | some fv, some as => callA cfg orc draw fv as h
  | _, _ => none
theorem oC_some {orc : Orc} {draw : Bool} {fv : AV} {as : List AV} : oC cfg orc draw h (some fv) (some as) = callA cfg orc draw fv as h := rfl
theorem opA_call {orc : Orc} {draw : Bool} {f : Operand} {args : Array Operand} {ts : Array TypeId} : opA P cfg orc own draw s (.call { callee := .value f, args := args, argTypes := ts }) = oC cfg orc draw s.h (evA s.T f) (mapO (evA s.T) args.toList) := by
  show (match evA s.T f, mapO (evA s.T) args.toList with | some fv, some as => callA cfg orc draw fv as s.h | _, _ => none) = oC cfg orc draw s.h (evA s.T f) (mapO (evA s.T) args.toList)
  generalize evA s.T f = a
  generalize mapO (evA s.T) args.toList = b
  cases a <;> cases b <;> rfl
end

section
variable {orc : Orc} {draw : Bool} {s : St}
theorem opA_move (a : Operand) : opA P cfg orc own draw s (.move a) = o1 P s (.move a) (opP P own (evA s.T) (.move a)) := opA_op rfl
theorem opA_assign (a : Operand) : opA P cfg orc own draw s (.assign a) = o1 P s (.assign a) (opP P own (evA s.T) (.assign a)) := opA_op rfl
theorem opA_pick (a b c : Operand) : opA P cfg orc own draw s (.pick a b c) = o1 P s (.pick a b c) (opP P own (evA s.T) (.pick a b c)) := opA_op rfl
theorem opA_alloc (t : TypeId) : opA P cfg orc own draw s (.alloc t) = o1 P s (.alloc t) (opP P own (evA s.T) (.alloc t)) := opA_op rfl
theorem opA_box (t : TypeId) (a : Operand) : opA P cfg orc own draw s (.box t a) = o1 P s (.box t a) (opP P own (evA s.T) (.box t a)) := opA_op rfl
theorem opA_build (t : TypeId) (ps : Array (Nat × Operand)) : opA P cfg orc own draw s (.build t ps) = o1 P s (.build t ps) (opP P own (evA s.T) (.build t ps)) := opA_op rfl
theorem opA_buildSlice (t : TypeId) (n : Nat) (ps : Array (Nat × Operand)) : opA P cfg orc own draw s (.buildSlice t n ps) = o1 P s (.buildSlice t n ps) (opP P own (evA s.T) (.buildSlice t n ps)) := opA_op rfl
theorem opA_load (t : TypeId) (a : Operand) : opA P cfg orc own draw s (.load t a) = o1 P s (.load t a) (opP P own (evA s.T) (.load t a)) := opA_op rfl
theorem opA_store (t : TypeId) (a b : Operand) : opA P cfg orc own draw s (.store t a b) = o1 P s (.store t a b) (opP P own (evA s.T) (.store t a b)) := opA_op rfl
theorem opA_nilCheck (a : Operand) : opA P cfg orc own draw s (.nilCheck a) = o1 P s (.nilCheck a) (opP P own (evA s.T) (.nilCheck a)) := opA_op rfl
theorem opA_binOp (bo : BinOp) (t u : TypeId) (a b : Operand) : opA P cfg orc own draw s (.binOp bo t a b u) = o1 P s (.binOp bo t a b u) (opP P own (evA s.T) (.binOp bo t a b u)) := opA_op rfl
theorem opA_unOp (uo : UnOp) (t : TypeId) (a : Operand) : opA P cfg orc own draw s (.unOp uo t a) = o1 P s (.unOp uo t a) (opP P own (evA s.T) (.unOp uo t a)) := opA_op rfl
theorem opA_convert (t u : TypeId) (a : Operand) : opA P cfg orc own draw s (.convert t u a) = o1 P s (.convert t u a) (opP P own (evA s.T) (.convert t u a)) := opA_op rfl
theorem opA_makeFunc (f : Fn) (a b : Array Operand) : opA P cfg orc own draw s (.makeFunc f a b) = o1 P s (.makeFunc f a b) (opP P own (evA s.T) (.makeFunc f a b)) := opA_op rfl
theorem opA_makeSlice (t : TypeId) (a b : Operand) : opA P cfg orc own draw s (.makeSlice t a b) = o1 P s (.makeSlice t a b) (opP P own (evA s.T) (.makeSlice t a b)) := opA_op rfl
theorem opA_slice (t : TypeId) (a : Operand) (l m n : Option Operand) : opA P cfg orc own draw s (.slice t a l m n) = o1 P s (.slice t a l m n) (opP P own (evA s.T) (.slice t a l m n)) := opA_op rfl
theorem opA_fieldAddr (t : TypeId) (a : Operand) (i : Nat) : opA P cfg orc own draw s (.fieldAddr t a i) = o1 P s (.fieldAddr t a i) (opP P own (evA s.T) (.fieldAddr t a i)) := opA_op rfl
theorem opA_field (t : TypeId) (a : Operand) (i : Nat) : opA P cfg orc own draw s (.field t a i) = o1 P s (.field t a i) (opP P own (evA s.T) (.field t a i)) := opA_op rfl
theorem opA_indexAddr (t : TypeId) (a b : Operand) : opA P cfg orc own draw s (.indexAddr t a b) = o1 P s (.indexAddr t a b) (opP P own (evA s.T) (.indexAddr t a b)) := opA_op rfl
theorem opA_index (t : TypeId) (a b : Operand) : opA P cfg orc own draw s (.index t a b) = o1 P s (.index t a b) (opP P own (evA s.T) (.index t a b)) := opA_op rfl
theorem opA_extract (a : Operand) (i : Nat) : opA P cfg orc own draw s (.extract a i) = o1 P s (.extract a i) (opP P own (evA s.T) (.extract a i)) := opA_op rfl
theorem opA_bi (bi : Builtin) (as : Array Operand) (ts : Array TypeId) : opA P cfg orc own draw s (.call { callee := .builtin bi, args := as, argTypes := ts }) = o1 P s (.call { callee := .builtin bi, args := as, argTypes := ts }) (opP P own (evA s.T) (.call { callee := .builtin bi, args := as, argTypes := ts })) := opA_op rfl
end

attribute [congr] br_congr o1_congr o2_congr o3_congr M_congr R_congr H_congr C_congr O_congr OA_congr OG_congr OD_congr OO_congr D_congr DA_congr DB_congr DG_congr DD_congr DO_congr DI_congr

end
end Go.Abs
