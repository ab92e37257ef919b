/- The interpreter's limit: one oracle for all numbers of levels; what it tells, some number of levels tells. -/
import Derived.Test.YthiogecmahdmcaaGreatDoorRfxM
set_option linter.unusedVariables false
set_option linter.unusedSimpArgs false
namespace Go.Abs

section
variable {P : Program} {cfg : Cfg}

def EvT (P : Program) (cfg : Cfg) (f : FuncId) (as : List AV) (h : Heap) (r : AV × Heap) : Prop := ∃ m, (runA P cfg m m).t f as h = some r

theorem Ev.det {f : FuncId} {as : List AV} {rv rv' : RV} (h : Ev P cfg f as rv) (h' : Ev P cfg f as rv') : rv = rv' := by
  obtain ⟨m, h⟩ := h
  obtain ⟨m', h'⟩ := h'
  have a := (run_le (P := P) (cfg := cfg) (Nat.le_max_left m m')).p _ _ _ h
  have b := (run_le (P := P) (cfg := cfg) (Nat.le_max_right m m')).p _ _ _ h'
  exact Option.some.inj (a.symm.trans b)

theorem EvT.det {f : FuncId} {as : List AV} {hp : Heap} {r r' : AV × Heap} (h : EvT P cfg f as hp r) (h' : EvT P cfg f as hp r') : r = r' := by
  obtain ⟨m, h⟩ := h
  obtain ⟨m', h'⟩ := h'
  have a := (run_le (P := P) (cfg := cfg) (Nat.le_max_left m m')).t _ _ _ _ h
  have b := (run_le (P := P) (cfg := cfg) (Nat.le_max_right m m')).t _ _ _ _ h'
  exact Option.some.inj (a.symm.trans b)

open Classical in
noncomputable def lim (P : Program) (cfg : Cfg) : Orc :=
  ⟨fun f as => if h : ∃ rv, Ev P cfg f as rv then some h.choose else none,
   fun f as hp => if h : ∃ r, EvT P cfg f as hp r then some h.choose else none⟩

theorem lim_p {f : FuncId} {as : List AV} {rv : RV} : (lim P cfg).p f as = some rv ↔ Ev P cfg f as rv := by
  unfold lim
  simp only
  constructor
  · intro h
    split at h
    · rename_i he
      injection h with h
      rw [← h]
      exact he.choose_spec
    · cases h
  · intro h
    have he : ∃ rv, Ev P cfg f as rv := ⟨rv, h⟩
    rw [dif_pos he]
    exact congrArg some (Ev.det he.choose_spec h)

theorem lim_t {f : FuncId} {as : List AV} {hp : Heap} {r : AV × Heap} : (lim P cfg).t f as hp = some r ↔ EvT P cfg f as hp r := by
  unfold lim
  simp only
  constructor
  · intro h
    split at h
    · rename_i he
      injection h with h
      rw [← h]
      exact he.choose_spec
    · cases h
  · intro h
    have he : ∃ r, EvT P cfg f as hp r := ⟨r, h⟩
    rw [dif_pos he]
    exact congrArg some (EvT.det he.choose_spec h)

theorem lim_p_ap {f : FuncId} {as : List AV} {rv : RV} (h : (lim P cfg).p f as = some rv) : ∃ m0, ∀ m, m0 ≤ m → (runA P cfg m m).p f as = some rv := by
  obtain ⟨m, h⟩ := lim_p.1 h
  exact ⟨m, fun m' hm => (run_le hm).p _ _ _ h⟩

theorem lim_t_ap {f : FuncId} {as : List AV} {hp : Heap} {r : AV × Heap} (h : (lim P cfg).t f as hp = some r) : ∃ m0, ∀ m, m0 ≤ m → (runA P cfg m m).t f as hp = some r := by
  obtain ⟨m, h⟩ := lim_t.1 h
  exact ⟨m, fun m' hm => (run_le hm).t _ _ _ _ h⟩

theorem callA_ap {draw : Bool} {fv : AV} {as : List AV} {h : Heap} {r : Cls × AV × Heap} (hc : callA cfg (lim P cfg) draw fv as h = some r) : ∃ m0, ∀ m, m0 ≤ m → callA cfg (runA P cfg m m) draw fv as h = some r := by
  cases fv <;> try (simp only [callA] at hc; cases hc)
  rename_i f caps
  simp only [callA] at hc ⊢
  split at hc
  · exact ⟨0, fun m _ => hc⟩
  · split at hc
    · rename_i hthr
      simp only [if_pos hthr]
      split at hc
      · rename_i ht
        obtain ⟨m0, h0⟩ := lim_t_ap ht
        exact ⟨m0, fun m hm => by simp only [h0 m hm]; exact hc⟩
      · cases hc
    · rename_i hthr
      simp only [if_neg hthr]
      split at hc
      · rename_i hcl
        simp only [if_pos hcl]
        split at hc
        · rename_i hp
          obtain ⟨m0, h0⟩ := lim_p_ap hp
          exact ⟨m0, fun m hm => by simp only [h0 m hm]; exact hc⟩
        · cases hc
      · rename_i hcl
        simp only [if_neg hcl]
        split at hc
        · rename_i hsn
          split at hc
          · rename_i hp
            obtain ⟨m0, h0⟩ := lim_p_ap hp
            exact ⟨m0, fun m hm => by simp only [h0 m hm]; exact hc⟩
          · cases hc
        · rename_i hsn
          split at hc
          · rename_i ht
            obtain ⟨m0, h0⟩ := lim_t_ap ht
            exact ⟨m0, fun m hm => by simp only [h0 m hm]; exact hc⟩
          · cases hc

theorem opA_ap {own draw : Bool} {s : St} {op : Op} {r : Cls × AV × Heap} (hc : opA P cfg (lim P cfg) own draw s op = some r) : ∃ m0, ∀ m, m0 ≤ m → opA P cfg (runA P cfg m m) own draw s op = some r := by
  unfold opA at hc ⊢
  split at hc
  · split at hc
    · exact callA_ap hc
    · cases hc
  · exact ⟨0, fun m _ => hc⟩

theorem stepA_ap {own : Bool} {ops : List Oper} {x : Oper} {s s' : St} (hc : stepA P cfg (lim P cfg) own ops x s = some s') : ∃ m0, ∀ m, m0 ≤ m → stepA P cfg (runA P cfg m m) own ops x s = some s' := by
  unfold stepA at hc ⊢
  split at hc
  · cases hc
  · exact ⟨0, fun m _ => hc⟩
  · split at hc
    · rename_i hop
      obtain ⟨m0, h0⟩ := opA_ap hop
      exact ⟨m0, fun m hm => by simp only [h0 m hm]; exact hc⟩
    · cases hc

theorem opsA_ap {own : Bool} {ops : List Oper} : ∀ {l : List Oper} {s s' : St}, opsA P cfg (lim P cfg) own ops l s = some s' → ∃ m0, ∀ m, m0 ≤ m → opsA P cfg (runA P cfg m m) own ops l s = some s'
  | [], s, s', hc => ⟨0, fun m _ => hc⟩
  | x :: l, s, s', hc => by
    simp only [opsA] at hc ⊢
    split at hc
    · rename_i hs
      obtain ⟨m0, h0⟩ := stepA_ap hs
      obtain ⟨m1, h1⟩ := opsA_ap hc
      exact ⟨max m0 m1, fun m hm => by simp only [h0 m (by omega), h1 m (by omega)]⟩
    · cases hc

theorem stepD_ap {ops : List Oper} {x : Oper × Option Nat} {s : St} {r : Cls × St} (hc : stepD P cfg (lim P cfg) ops x s = some r) : ∃ m0, ∀ m, m0 ≤ m → stepD P cfg (runA P cfg m m) ops x s = some r := by
  unfold stepD at hc ⊢
  split at hc
  · exact ⟨0, fun m _ => hc⟩
  · split at hc
    · rename_i hop
      obtain ⟨m0, h0⟩ := opA_ap hop
      exact ⟨m0, fun m hm => by simp only [h0 m hm]; exact hc⟩
    · cases hc
  · exact ⟨0, fun m _ => hc⟩
  · cases hc

theorem opsD_ap {ops : List Oper} : ∀ {l : List (Oper × Option Nat)} {s : St} {r : List Cls × St}, opsD P cfg (lim P cfg) ops l s = some r → ∃ m0, ∀ m, m0 ≤ m → opsD P cfg (runA P cfg m m) ops l s = some r
  | [], s, r, hc => ⟨0, fun m _ => hc⟩
  | x :: l, s, r, hc => by
    simp only [opsD] at hc ⊢
    split at hc
    · rename_i hs
      obtain ⟨m0, h0⟩ := stepD_ap hs
      split at hc
      · rename_i hl
        obtain ⟨m1, h1⟩ := opsD_ap hl
        exact ⟨max m0 m1, fun m hm => by simp only [h0 m (by omega), h1 m (by omega)]; exact hc⟩
      · cases hc
    · cases hc

theorem regionD_ap {ops : List Oper} {s s' : St} (hc : regionD P cfg (lim P cfg) ops s = some s') : ∃ m0, ∀ m, m0 ≤ m → regionD P cfg (runA P cfg m m) ops s = some s' := by
  unfold regionD at hc ⊢
  simp only at hc ⊢
  split at hc
  · rename_i hD
    obtain ⟨m0, h0⟩ := opsD_ap hD
    exact ⟨m0, fun m hm => by simp only [h0 m hm]; exact hc⟩
  · cases hc

theorem iterA_ap {F : Orc → St → Option (Ex × St)} {hd : St → St} (hf : ∀ s r, F (lim P cfg) s = some r → ∃ m0, ∀ m, m0 ≤ m → F (runA P cfg m m) s = some r) : ∀ (n : Nat) (s : St) (r : Ex × St), iterA (F (lim P cfg)) hd n s = some r → ∃ m0, ∀ m, m0 ≤ m → iterA (F (runA P cfg m m)) hd n s = some r
  | 0, s, r, h => by cases h
  | n + 1, s, r, h => by
    simp only [iterA] at h ⊢
    split at h
    · rename_i s1 hs
      obtain ⟨m0, h0⟩ := hf _ _ hs
      obtain ⟨m1, h1⟩ := iterA_ap hf n s1 r h
      exact ⟨max m0 m1, fun m hm => by simp only [h0 m (by omega), h1 m (by omega)]⟩
    · rename_i hne
      obtain ⟨m0, h0⟩ := hf _ _ h
      refine ⟨m0, fun m hm => ?_⟩
      simp only [h0 m hm]
      split
      · rename_i s1 hs
        injection hs with hs
        subst hs
        exact absurd h (hne _)
      · rfl

theorem codeA_ap {own : Bool} {fuel : Nat} {dead : Nat → List Tmp} : ∀ (c : Code) (s : St) (r : Ex × St), codeA P cfg (lim P cfg) own fuel dead c s = some r → ∃ m0, ∀ m, m0 ≤ m → codeA P cfg (runA P cfg m m) own fuel dead c s = some r := by
  intro c
  induction c with
  | region id ops draw =>
    intro s r h
    simp only [codeA] at h ⊢
    split at h
    · rename_i s1 hs
      have : ∃ m0, ∀ m, m0 ≤ m → (if draw then regionD P cfg (runA P cfg m m) ops.toList s else opsA P cfg (runA P cfg m m) own ops.toList ops.toList s) = some s1 := by
        cases draw with
        | true => exact regionD_ap (by simpa using hs)
        | false => exact opsA_ap (by simpa using hs)
      obtain ⟨m0, h0⟩ := this
      exact ⟨m0, fun m hm => by simp only [h0 m hm]; exact h⟩
    · cases h
  | seq a b iha ihb =>
    intro s r h
    simp only [codeA] at h ⊢
    split at h
    · rename_i s1 hs
      obtain ⟨m0, h0⟩ := iha _ _ hs
      obtain ⟨m1, h1⟩ := ihb _ _ h
      exact ⟨max m0 m1, fun m hm => by simp only [h0 m (by omega), h1 m (by omega)]⟩
    · rename_i hne
      obtain ⟨m0, h0⟩ := iha _ _ h
      refine ⟨m0, fun m hm => ?_⟩
      simp only [h0 m hm]
      split
      · rename_i s1 hs
        injection hs with hs
        subst hs
        exact absurd h (hne _)
      · rfl
  | cond c x y ihx ihy =>
    intro s r h
    simp only [codeA] at h ⊢
    split at h
    · split at h
      · rename_i ht
        simp only [ht, if_true]
        exact ihx _ _ h
      · rename_i ht
        simp only [ht]
        exact ihy _ _ h
    · cases h
  | block id b ih =>
    intro s r h
    simp only [codeA] at h ⊢
    split at h
    · rename_i id' s1 hs
      obtain ⟨m0, h0⟩ := ih _ _ hs
      exact ⟨m0, fun m hm => by simp only [h0 m hm]; exact h⟩
    · rename_i hne
      obtain ⟨m0, h0⟩ := ih _ _ h
      refine ⟨m0, fun m hm => ?_⟩
      simp only [h0 m hm]
      split
      · rename_i id' s1 hs
        injection hs with hs
        subst hs
        exact absurd h (hne _ _)
      · rfl
  | loop b ih =>
    intro s r h
    simp only [codeA] at h ⊢
    exact iterA_ap (F := fun o => codeA P cfg o own fuel dead b) ih fuel s r h
  | scope b ih =>
    intro s r h
    simp only [codeA] at h ⊢
    exact ih _ _ h
  | _ =>
    intro s r h
    simp only [codeA] at h ⊢
    exact ⟨0, fun m _ => h⟩

theorem bodyA_ap {own : Bool} {fuel : Nat} {dead : Nat → List Tmp} {fn : Func} {as : List AV} {h : Heap} {r : AV × Heap} (hb : bodyA P cfg (lim P cfg) own fuel dead fn as h = some r) :
    ∃ m0, ∀ m, m0 ≤ m → bodyA P cfg (runA P cfg m m) own fuel dead fn as h = some r := by
  unfold bodyA at hb ⊢
  split at hb
  · cases hb
  · rename_i c hc
    split at hb
    · rename_i s hs
      obtain ⟨m0, h0⟩ := codeA_ap c _ _ hs
      exact ⟨m0, fun m hm => by simp only [h0 m hm]; exact hb⟩
    · rename_i s hs
      obtain ⟨m0, h0⟩ := codeA_ap c _ _ hs
      exact ⟨m0, fun m hm => by simp only [h0 m hm]; exact hb⟩
    · cases hb

theorem pureA_ap {fuel : Nat} {f : FuncId} {as : List AV} {r : RV} (hb : pureA P cfg (lim P cfg) fuel f as = some r) : ∃ m0, ∀ m, m0 ≤ m → pureA P cfg (runA P cfg m m) fuel f as = some r := by
  unfold pureA at hb ⊢
  split at hb
  · cases hb
  · split at hb
    · rename_i hx
      obtain ⟨m0, h0⟩ := bodyA_ap hx
      exact ⟨m0, fun m hm => by simp only [h0 m hm]; exact hb⟩
    · cases hb

theorem thrA_ap {fuel : Nat} {f : FuncId} {as : List AV} {h : Heap} {r : AV × Heap} (hb : thrA P cfg (lim P cfg) fuel f as h = some r) : ∃ m0, ∀ m, m0 ≤ m → thrA P cfg (runA P cfg m m) fuel f as h = some r := by
  unfold thrA at hb ⊢
  split at hb
  · cases hb
  · exact bodyA_ap hb

/-- The limit is closed: a body run with it tells nothing that it does not tell. -/
theorem lim_of_pure {fuel : Nat} {f : FuncId} {as : List AV} {r : RV} (h : pureA P cfg (lim P cfg) fuel f as = some r) : (lim P cfg).p f as = some r := by
  obtain ⟨m0, h0⟩ := pureA_ap h
  exact lim_p.2 (Ev.of_pure ⟨fuel, h0 m0 (Nat.le_refl _)⟩)

theorem lim_of_thr {fuel : Nat} {f : FuncId} {as : List AV} {hp : Heap} {r : AV × Heap} (h : thrA P cfg (lim P cfg) fuel f as hp = some r) : (lim P cfg).t f as hp = some r := by
  obtain ⟨m0, h0⟩ := thrA_ap h
  refine lim_t.2 ⟨m0 + fuel + 1, ?_⟩
  have le := runA_le (P := P) (cfg := cfg) m0 (fuel + 1) m0 fuel
  have := thrA_mono (k := m0 + 1) le (h0 m0 (Nat.le_refl _))
  rw [show fuel + (m0 + 1) = m0 + fuel + 1 from by omega] at this
  exact this

end
end Go.Abs
