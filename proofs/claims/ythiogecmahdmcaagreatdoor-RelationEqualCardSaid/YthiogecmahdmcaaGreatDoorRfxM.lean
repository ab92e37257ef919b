/- More levels and more rounds tell the same. -/
import Derived.Test.YthiogecmahdmcaaGreatDoorRfxExec
set_option linter.unusedVariables false
set_option linter.unusedSimpArgs false
namespace Go.Abs

structure Orc.Le (o o' : Orc) : Prop where
  p : ∀ f as rv, o.p f as = some rv → o'.p f as = some rv
  t : ∀ f as h r, o.t f as h = some r → o'.t f as h = some r

section
variable {P : Program} {cfg : Cfg} {o o' : Orc}

theorem callA_mono (le : o.Le o') {draw : Bool} {fv : AV} {as : List AV} {h : Heap} {r : Cls × AV × Heap} (hc : callA cfg o draw fv as h = some r) : callA cfg o' draw fv as h = some r := by
  cases fv <;> try (simp only [callA] at hc; cases hc)
  rename_i f caps
  simp only [callA] at hc ⊢
  split at hc
  · exact hc
  · split at hc
    · rename_i hthr
      rw [if_pos hthr]
      split at hc
      · rename_i ht
        simp only [le.t _ _ _ _ ht]
        exact hc
      · cases hc
    · rename_i hthr
      rw [if_neg hthr]
      split at hc
      · rename_i hcl
        rw [if_pos hcl]
        split at hc
        · rename_i hp
          simp only [le.p _ _ _ hp]
          exact hc
        · cases hc
      · rename_i hcl
        rw [if_neg hcl]
        split at hc
        · rename_i hsn
          split at hc
          · rename_i hp
            simp only [le.p _ _ _ hp]
            exact hc
          · cases hc
        · rename_i hsn
          split at hc
          · rename_i ht
            simp only [le.t _ _ _ _ ht]
            exact hc
          · cases hc

theorem opA_mono (le : o.Le o') {own draw : Bool} {s : St} {op : Op} {r : Cls × AV × Heap} (hc : opA P cfg o own draw s op = some r) : opA P cfg o' own draw s op = some r := by
  unfold opA at hc ⊢
  split at hc
  · split at hc
    · exact callA_mono le hc
    · cases hc
  · exact hc

theorem stepA_mono (le : o.Le o') {own : Bool} {ops : List Oper} {x : Oper} {s s' : St} (hc : stepA P cfg o own ops x s = some s') : stepA P cfg o' own ops x s = some s' := by
  unfold stepA at hc ⊢
  split at hc
  · cases hc
  · exact hc
  · split at hc
    · rename_i hop
      simp only [opA_mono le hop]
      exact hc
    · cases hc

theorem opsA_mono (le : o.Le o') {own : Bool} {ops : List Oper} : ∀ {l : List Oper} {s s' : St}, opsA P cfg o own ops l s = some s' → opsA P cfg o' own ops l s = some s'
  | [], s, s', hc => hc
  | x :: l, s, s', hc => by
    simp only [opsA] at hc ⊢
    split at hc
    · rename_i hs
      simp only [stepA_mono le hs]
      exact opsA_mono le hc
    · cases hc

theorem stepD_mono (le : o.Le o') {ops : List Oper} {x : Oper × Option Nat} {s : St} {r : Cls × St} (hc : stepD P cfg o ops x s = some r) : stepD P cfg o' ops x s = some r := by
  unfold stepD at hc ⊢
  split at hc
  · exact hc
  · split at hc
    · rename_i hop
      simp only [opA_mono le hop]
      exact hc
    · cases hc
  · exact hc
  · cases hc

theorem opsD_mono (le : o.Le o') {ops : List Oper} : ∀ {l : List (Oper × Option Nat)} {s : St} {r : List Cls × St}, opsD P cfg o ops l s = some r → opsD P cfg o' ops l s = some r
  | [], s, r, hc => hc
  | x :: l, s, r, hc => by
    simp only [opsD] at hc ⊢
    split at hc
    · rename_i hs
      simp only [stepD_mono le hs]
      split at hc
      · rename_i hl
        simp only [opsD_mono le hl]
        exact hc
      · cases hc
    · cases hc

theorem regionD_mono (le : o.Le o') {ops : List Oper} {s s' : St} (hc : regionD P cfg o ops s = some s') : regionD P cfg o' ops s = some s' := by
  unfold regionD at hc ⊢
  simp only at hc ⊢
  split at hc
  · rename_i hD
    simp only [opsD_mono le hD]
    exact hc
  · cases hc

theorem iterA_mono {f f' : St → Option (Ex × St)} {hd : St → St} (hf : ∀ s r, f s = some r → f' s = some r) : ∀ (n k : Nat) (s : St) (r : Ex × St), iterA f hd n s = some r → iterA f' hd (n + k) s = some r
  | 0, k, s, r, h => by cases h
  | n + 1, k, s, r, h => by
    rw [show n + 1 + k = (n + k) + 1 from by omega]
    simp only [iterA] at h ⊢
    split at h
    · rename_i s1 hs
      simp only [hf _ _ hs]
      exact iterA_mono hf n k s1 r h
    · rename_i hne
      simp only [hf _ _ h]
      split
      · rename_i s1 hs
        injection hs with hs
        subst hs
        exact absurd h (hne _)
      · rfl

theorem codeA_mono (le : o.Le o') {own : Bool} {fuel k : Nat} {dead : Nat → List Tmp} : ∀ (c : Code) (s : St) (r : Ex × St), codeA P cfg o own fuel dead c s = some r → codeA P cfg o' own (fuel + k) dead c s = some r := by
  intro c
  induction c with
  | region id ops draw =>
    intro s r h
    simp only [codeA] at h ⊢
    split at h
    · rename_i s1 hs
      have : (if draw then regionD P cfg o' ops.toList s else opsA P cfg o' own ops.toList ops.toList s) = some s1 := by
        cases draw with
        | true => exact regionD_mono le (by simpa using hs)
        | false => exact opsA_mono le (by simpa using hs)
      simp only [this]
      exact h
    · cases h
  | seq a b iha ihb =>
    intro s r h
    simp only [codeA] at h ⊢
    split at h
    · rename_i s1 hs
      simp only [iha _ _ hs]
      exact ihb _ _ h
    · rename_i hne
      simp only [iha _ _ h]
      split
      · rename_i s1 hs
        injection hs with hs
        subst hs
        exact absurd h (hne _)
      · rfl
  | cond c x y ihx ihy =>
    intro s r h
    simp only [codeA] at h ⊢
    split at h
    · split at h
      · rename_i ht
        simp only [ht, if_true]
        exact ihx _ _ h
      · rename_i ht
        simp only [ht]
        exact ihy _ _ h
    · cases h
  | block id b ih =>
    intro s r h
    simp only [codeA] at h ⊢
    split at h
    · rename_i id' s1 hs
      simp only [ih _ _ hs]
      exact h
    · rename_i hne
      simp only [ih _ _ h]
      split
      · rename_i id' s1 hs
        injection hs with hs
        subst hs
        exact absurd h (hne _ _)
      · rfl
  | loop b ih =>
    intro s r h
    simp only [codeA] at h ⊢
    exact iterA_mono ih fuel k s r h
  | scope b ih =>
    intro s r h
    simp only [codeA] at h ⊢
    exact ih _ _ h
  | _ =>
    intro s r h
    simp only [codeA] at h ⊢
    exact h

theorem bodyA_mono (le : o.Le o') {own : Bool} {fuel k : Nat} {dead : Nat → List Tmp} {fn : Func} {as : List AV} {h : Heap} {r : AV × Heap} (hb : bodyA P cfg o own fuel dead fn as h = some r) :
    bodyA P cfg o' own (fuel + k) dead fn as h = some r := by
  unfold bodyA at hb ⊢
  split at hb
  · cases hb
  · rename_i c hc
    split at hb
    · rename_i s hs
      simp only [codeA_mono le c _ _ hs]
      exact hb
    · rename_i s hs
      simp only [codeA_mono le c _ _ hs]
      exact hb
    · cases hb

theorem pureA_mono (le : o.Le o') {fuel k : Nat} {f : FuncId} {as : List AV} {r : RV} (hb : pureA P cfg o fuel f as = some r) : pureA P cfg o' (fuel + k) f as = some r := by
  unfold pureA at hb ⊢
  split at hb
  · cases hb
  · split at hb
    · rename_i hx
      simp only [bodyA_mono le hx]
      exact hb
    · cases hb

theorem thrA_mono (le : o.Le o') {fuel k : Nat} {f : FuncId} {as : List AV} {h : Heap} {r : AV × Heap} (hb : thrA P cfg o fuel f as h = some r) : thrA P cfg o' (fuel + k) f as h = some r := by
  unfold thrA at hb ⊢
  split at hb
  · cases hb
  · exact bodyA_mono le hb

theorem runA_le (fuel k : Nat) : ∀ (n j : Nat), (runA P cfg fuel n).Le (runA P cfg (fuel + k) (n + j))
  | 0, j => ⟨(fun f as rv h => by cases h), (fun f as h r hh => by cases hh)⟩
  | n + 1, j => by
    rw [show n + 1 + j = (n + j) + 1 from by omega]
    exact ⟨fun f as rv h => pureA_mono (runA_le fuel k n j) h, fun f as h r hh => thrA_mono (runA_le fuel k n j) hh⟩

/-- What the interpreter finds, with some number of levels and rounds. -/
def Ev (P : Program) (cfg : Cfg) (f : FuncId) (as : List AV) (rv : RV) : Prop := ∃ m, (runA P cfg m m).p f as = some rv

theorem Ev.at {f : FuncId} {as : List AV} {rv : RV} {fuel n : Nat} (h : (runA P cfg fuel n).p f as = some rv) : Ev P cfg f as rv := by
  refine ⟨fuel + n, ?_⟩
  have := (runA_le (P := P) (cfg := cfg) fuel n n fuel).p f as rv h
  rwa [Nat.add_comm n fuel] at this

theorem run_le {m m' : Nat} (h : m ≤ m') : (runA P cfg m m).Le (runA P cfg m' m') := by
  have := runA_le (P := P) (cfg := cfg) m (m' - m) m (m' - m)
  rwa [show m + (m' - m) = m' from by omega] at this

/-- Of finitely many calls: one number of levels for all. -/
theorem ev_all {n : Nat} {f : Nat → FuncId} {as : Nat → List AV} {rv : Nat → RV} (h : ∀ i, i < n → Ev P cfg (f i) (as i) (rv i)) : ∃ m, ∀ m', m ≤ m' → ∀ i, i < n → (runA P cfg m' m').p (f i) (as i) = some (rv i) := by
  induction n with
  | zero => exact ⟨0, fun m' _ i hi => by omega⟩
  | succ n ih =>
    obtain ⟨m, hm⟩ := ih (fun i hi => h i (by omega))
    obtain ⟨k, hk⟩ := h n (by omega)
    refine ⟨max m k, fun m' hm' i hi => ?_⟩
    by_cases hin : i = n
    · subst hin
      exact (run_le (by omega)).p _ _ _ hk
    · exact hm m' (by omega) i (by omega)

/-- A function's body, run with the answers that there are, at some number of levels. -/
theorem Ev.of_pure {f : FuncId} {as : List AV} {rv : RV} {m : Nat} (h : ∃ fuel, pureA P cfg (runA P cfg m m) fuel f as = some rv) : Ev P cfg f as rv := by
  obtain ⟨fuel, h⟩ := h
  refine Ev.at (fuel := m + fuel) (n := m + 1) ?_
  have le := runA_le (P := P) (cfg := cfg) m fuel m 0
  have := pureA_mono (k := m) le h
  rw [Nat.add_comm fuel m] at this
  exact this

end
end Go.Abs
