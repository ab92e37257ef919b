/- Operations whose order is open: neighbours that do not meet may change places. -/
import Derived.Test.YthiogecmahdmcaaGreatDoorRfxS5
set_option linter.unusedVariables false
set_option linter.unusedSimpArgs false
namespace Go.Abs
open Go.RowKit

section
variable {P : Program} {cfg : Cfg} {orc : Orc}

theorem opA_cls {T : List AV} {h h' : Heap} {op : Op} {c : Cls} {v : AV} (hc : opA P cfg orc false true ⟨T, h⟩ op = some (c, v, h')) : ClsOk (fun h => opA P cfg orc false true ⟨T, h⟩ op) c v h h' := by
  unfold opA at hc ⊢
  split at hc
  · split at hc
    · rename_i fv as hf has
      simp only [hf, has]
      exact callA_cls hc
    · cases hc
  · rename_i hnc
    split at hc
    · rename_i v1 hP
      simp only [Option.some.injEq, Prod.mk.injEq] at hc
      obtain ⟨rfl, rfl, rfl⟩ := hc
      exact ⟨rfl, fun h2 => by simp only [hP]⟩
    · rename_i hP
      split at hc
      · rename_i v1 hC
        simp only [Option.some.injEq, Prod.mk.injEq] at hc
        obtain ⟨rfl, rfl, rfl⟩ := hc
        exact ⟨rfl, fun h2 ha => by simp only [hP, opC_local hC ha]⟩
      · rename_i hC0
        split at hc
        · rename_i v1 h1 hL
          simp only [Option.some.injEq, Prod.mk.injEq] at hc
          obtain ⟨rfl, rfl, rfl⟩ := hc
          cases op <;> try trivial
          rename_i t a x
          cases hea : evA T a with
          | none => simp only [footL, hea]; trivial
          | some p =>
            cases p <;> try (simp only [footL, hea]; trivial)
            rename_i b ver off
            simp only [footL, hea]
            simp only [opL, hea] at hL
            split at hL
            · rename_i b1 ver1 off1 y n hab hy hn
              simp only [Option.some.injEq, AV.ptr.injEq] at hab
              obtain ⟨rfl, rfl, rfl⟩ := hab
              split at hL
              · rename_i vs hvs
                split at hL
                · rename_i hlen
                  split at hL
                  · rename_i h2 hst
                    simp only [Option.some.injEq, Prod.mk.injEq] at hL
                    obtain ⟨rfl, rfl⟩ := hL
                    obtain ⟨l1, l2, l3⟩ := storeA_local hst
                    refine ⟨l1, l2, fun h3 hl ha => ?_⟩
                    obtain ⟨h3', m1, m2, m3, m4⟩ := l3 h3 hl ha
                    refine ⟨h3', ?_, m2, m3, m4⟩
                    simp only [hP, opC, opL, hea, hy, hn, hvs, hlen, if_true, m1]
                  · cases hL
                · cases hL
              · cases hL
            · cases hL
        · cases hc

/-- One operation of such a region, without its slot. -/
def coreD (P : Program) (cfg : Cfg) (orc : Orc) (ops : Array Oper) (o : Oper) (ko : Option Nat) (T : List AV) (h : Heap) : Option (Cls × AV × Heap) :=
  match wantA ops.toList T o, ko with
  | some true, some k => match wakeA P cfg ⟨T, h⟩ o.op k with
    | some (v, h') => some (.L (some [k]), v, h')
    | none => none
  | some true, none => opA P cfg orc false true ⟨T, h⟩ o.op
  | some false, none => some (.P, undefA, h)
  | _, _ => none

theorem stepD_core {ops : Array Oper} {o : Oper × Option Nat} {s s' : St} {c : Cls} (h : stepD P cfg orc ops.toList o s = some (c, s')) :
    ∃ v h', coreD P cfg orc ops o.1 o.2 s.T s.h = some (c, v, h') ∧ s' = ⟨putA s.T o.1.dst v, h'⟩ := by
  unfold stepD at h
  unfold coreD
  split at h
  · rename_i k hw hk
    rw [hw, hk]
    split at h
    · rename_i v h' hwk
      simp only [Option.some.injEq, Prod.mk.injEq] at h
      obtain ⟨rfl, rfl⟩ := h
      exact ⟨v, h', by simp only [hwk], rfl⟩
    · cases h
  · rename_i hw hk
    rw [hw, hk]
    split at h
    · rename_i c1 v h' hop
      simp only [Option.some.injEq, Prod.mk.injEq] at h
      obtain ⟨rfl, rfl⟩ := h
      exact ⟨v, h', hop, rfl⟩
    · cases h
  · rename_i hw hk
    rw [hw, hk]
    simp only [Option.some.injEq, Prod.mk.injEq] at h
    obtain ⟨rfl, rfl⟩ := h
    exact ⟨undefA, s.h, rfl, rfl⟩
  · cases h

theorem wantA_congr {ops : Array Oper} {o : Oper} {T T' : List AV} (h : ∀ t ∈ o.looksAt ops, T.getD t undefA = T'.getD t undefA) : wantA ops.toList T o = wantA ops.toList T' o := by
  unfold wantA
  cases hg : o.guard with
  | none => rfl
  | some g =>
    obtain ⟨j, want⟩ := g
    simp only [Array.getElem?_toList]
    cases hd : (ops[j]?).bind (·.dst) with
    | none => rfl
    | some d =>
      simp only
      rw [h d (by unfold Oper.looksAt; rw [hg]; simp only [hd]; simp)]

theorem coreD_congr {ops : Array Oper} {o : Oper} {ko : Option Nat} {T T' : List AV} {h : Heap} (hx : ∀ t ∈ o.looksAt ops, T.getD t undefA = T'.getD t undefA) :
    coreD P cfg orc ops o ko T h = coreD P cfg orc ops o ko T' h := by
  have hop : ∀ x ∈ o.op.operands, evA T x = evA T' x := by
    intro x hm
    cases x with
    | tmp t =>
      simp only [evA]
      rw [hx t (List.mem_append_left _ (List.mem_filterMap.2 ⟨.tmp t, by simpa using hm, rfl⟩))]
    | _ => rfl
  unfold coreD
  rw [wantA_congr hx]
  cases wantA ops.toList T' o with
  | none => rfl
  | some w =>
    cases w <;> cases ko <;> simp only
    · exact opA_congr _ hop
    · rw [wakeA_congr _ _ hop]

theorem wakeA_cls {T : List AV} {h h' : Heap} {op : Op} {k : Nat} {v : AV} (hc : wakeA P cfg ⟨T, h⟩ op k = some (v, h')) :
    (∃ b nb, h[k]? = some b ∧ b.dead = true ∧ b.fr = true ∧ h' = h.set k nb ∧ ∀ h2 : Heap, h2[k]? = some b → wakeA P cfg ⟨T, h2⟩ op k = some (v, h2.set k nb)) := by
  unfold wakeA at hc
  simp only at hc
  split at hc
  · rename_i b hb
    split at hc
    · rename_i hd
      split at hc
      · rename_i elem
        split at hc
        · rename_i z hz
          simp only [Option.some.injEq, Prod.mk.injEq] at hc
          obtain ⟨rfl, rfl⟩ := hc
          exact ⟨b, _, hb, hd.1, hd.2, rfl, fun h2 hb2 => by simp only [wakeA, hb2, hd, and_self, if_true, hz]⟩
        · cases hc
      · rename_i f args ats
        split at hc
        · rename_i el n hm has
          split at hc
          · rename_i hn
            simp only [Option.some.injEq, Prod.mk.injEq] at hc
            obtain ⟨rfl, rfl⟩ := hc
            refine ⟨b, _, hb, hd.1, hd.2, rfl, fun h2 hb2 => ?_⟩
            unfold wakeA
            simp only [hb2, hd, and_self, if_true, hm, has]
            rw [if_pos hn]
          · cases hc
        · cases hc
      · cases hc
    · cases hc
  · cases hc

theorem coreD_cls {ops : Array Oper} {o : Oper} {ko : Option Nat} {T : List AV} {h h' : Heap} {c : Cls} {v : AV} (hc : coreD P cfg orc ops o ko T h = some (c, v, h')) :
    ClsOk (coreD P cfg orc ops o ko T) c v h h' := by
  unfold coreD at hc
  split at hc
  · rename_i k hw
    split at hc
    · rename_i v1 h1 hwk
      simp only [Option.some.injEq, Prod.mk.injEq] at hc
      obtain ⟨rfl, rfl, rfl⟩ := hc
      obtain ⟨b, nb, hb, _, _, rfl, hsame⟩ := wakeA_cls hwk
      refine ⟨set_local.1, set_local.2, fun h2 hl ha => ⟨h2.set k nb, ?_, set_local.1, fun j hj => ?_, set_local.2⟩⟩
      · have := hsame h2 (by rw [ha k (by simp), hb])
        simp only [coreD, hw, this]
      · simp at hj
        subst hj
        rw [List.getElem?_set, List.getElem?_set, if_pos rfl, if_pos rfl, hl]
    · cases hc
  · rename_i hw
    have := opA_cls hc
    have e : coreD P cfg orc ops o none T = fun h => opA P cfg orc false true ⟨T, h⟩ o.op := by
      funext h
      simp only [coreD, hw]
    rw [e]
    exact this
  · rename_i hw
    simp only [Option.some.injEq, Prod.mk.injEq] at hc
    obtain ⟨rfl, rfl, rfl⟩ := hc
    exact ⟨rfl, fun h2 => by simp only [coreD, hw]⟩
  · cases hc

theorem meet_false {a b : List Nat} (h : meet (some a) (some b) = false) : ∀ j ∈ a, j ∉ b := by
  intro j ha hb
  simp only [meet, List.any_eq_false] at h
  exact h j ha (by simpa using hb)

/-- Heaps alone: two runs that do not meet change places. -/
theorem comm_heap {rx ry : Heap → Option (Cls × AV × Heap)} {cx cy : Cls} {vx vy : AV} {h h1 h2 : Heap} (hcl : cx.clash cy = false) (hx : rx h = some (cx, vx, h1)) (hy : ry h1 = some (cy, vy, h2))
    (kx : ClsOk rx cx vx h h1) (ky : ClsOk ry cy vy h1 h2) : ∃ h1', ry h = some (cy, vy, h1') ∧ rx h1' = some (cx, vx, h2) := by
  match cx, cy, kx, ky with
  | .P, _, kx, ky =>
    obtain ⟨rfl, k⟩ := kx
    exact ⟨h2, hy, k h2⟩
  | .C (some a), .P, kx, ky =>
    obtain ⟨rfl, k⟩ := ky
    exact ⟨h, k h, hx⟩
  | .L a, .P, kx, ky =>
    obtain ⟨rfl, k⟩ := ky
    exact ⟨h, k h, hx⟩
  | .C (some a), .C (some b), kx, ky =>
    obtain ⟨rfl, _⟩ := kx
    obtain ⟨rfl, _⟩ := ky
    exact ⟨_, hy, hx⟩
  | .C (some a), .L (some b), kx, ky =>
    obtain ⟨rfl, k⟩ := kx
    have hm := meet_false hcl
    exact ⟨h2, hy, k h2 (fun j hj => ky.off j (hm j hj))⟩
  | .L (some a), .C (some b), kx, ky =>
    obtain ⟨rfl, k⟩ := ky
    have hm := meet_false hcl
    exact ⟨h, k h (fun j hj => (kx.off j (fun ha => hm j ha hj)).symm), hx⟩
  | .L (some a), .L (some b), kx, ky =>
    have hm := meet_false hcl
    obtain ⟨h1', e1, e2, e3, e4⟩ := ky.same h kx.len.symm (fun j hj => (kx.off j (fun ha => hm j ha hj)).symm)
    obtain ⟨h2', g1, g2, g3, g4⟩ := kx.same h1' e2 (fun j hj => e4 j (hm j hj))
    refine ⟨h1', e1, ?_⟩
    have : h2' = h2 := by
      apply List.ext_getElem?
      intro j
      by_cases ha : j ∈ a
      · rw [g3 j ha, ky.off j (hm j ha)]
      · rw [g4 j ha]
        by_cases hb : j ∈ b
        · exact e3 j hb
        · rw [e4 j hb, ky.off j hb, kx.off j ha]
    rw [← this]
    exact g1
  | .C none, _, kx, ky => exact kx.elim
  | _, .C none, kx, ky => exact ky.elim
  | .L none, .L b, kx, ky => cases hcl
  | .L none, .C (some b), kx, ky => cases hcl
  | .L (some a), .L none, kx, ky => cases hcl
  | .C (some a), .L none, kx, ky => cases hcl

theorem putA_getD {T : List AV} {d : Option Tmp} {v : AV} {t : Tmp} (h : d ≠ some t) : (putA T d v).getD t undefA = T.getD t undefA := by
  cases d with
  | none => rfl
  | some d =>
    have hne : d ≠ t := fun e => h (by rw [e])
    simp only [putA, List.getD_eq_getElem?_getD, List.getElem?_set]
    rw [if_neg hne]

theorem putA_comm {T : List AV} {dx dy : Option Tmp} {v u : AV} (h : ∀ d, dx = some d → dy ≠ some d) : putA (putA T dx v) dy u = putA (putA T dy u) dx v := by
  cases dx with
  | none => rfl
  | some d =>
    cases dy with
    | none => rfl
    | some e =>
      simp only [putA]
      exact List.set_comm _ _ (fun he => h d rfl (by rw [he]))

theorem comm2 {ops : Array Oper} {x y : Oper} {kx ky : Option Nat} {cx cy : Cls} {vx vy : AV} {T : List AV} {h h1 h2 : Heap} (hap : x.apart ops y = true) (hcl : cx.clash cy = false)
    (hx : coreD P cfg orc ops x kx T h = some (cx, vx, h1)) (hy : coreD P cfg orc ops y ky (putA T x.dst vx) h1 = some (cy, vy, h2)) :
    ∃ h1', coreD P cfg orc ops y ky T h = some (cy, vy, h1') ∧ coreD P cfg orc ops x kx (putA T y.dst vy) h1' = some (cx, vx, h2) ∧ putA (putA T x.dst vx) y.dst vy = putA (putA T y.dst vy) x.dst vx := by
  obtain ⟨a1, a2, a3⟩ := Oper.apart_spec hap
  rw [coreD_congr (T' := T) (fun t ht => putA_getD (fun e => a1 t e ht))] at hy
  obtain ⟨h1', e1, e2⟩ := comm_heap hcl hx hy (coreD_cls hx) (coreD_cls hy)
  exact ⟨h1', e1, by rw [coreD_congr (T' := T) (fun t ht => putA_getD (fun e => a3 t e ht))]; exact e2, putA_comm a2⟩

structure Ent where
  i : Nat
  o : Oper
  ko : Option Nat
  c : Cls

inductive Run (P : Program) (cfg : Cfg) (orc : Orc) (ops : Array Oper) : List Ent → St → St → Prop
  | nil (s : St) : Run P cfg orc ops [] s s
  | cons (e : Ent) (r : List Ent) (s s' : St) (v : AV) (h' : Heap) : coreD P cfg orc ops e.o e.ko s.T s.h = some (e.c, v, h') → Run P cfg orc ops r ⟨putA s.T e.o.dst v, h'⟩ s' → Run P cfg orc ops (e :: r) s s'

def Free (ops : Array Oper) (e e' : Ent) : Prop := e.o.apart ops e'.o = true ∧ e.c.clash e'.c = false

theorem Run.pull {ops : Array Oper} {e : Ent} {l2 : List Ent} {s' : St} : ∀ (l1 : List Ent) (s : St), (∀ x ∈ l1, Free ops x e) → Run P cfg orc ops (l1 ++ e :: l2) s s' →
    ∃ v h', coreD P cfg orc ops e.o e.ko s.T s.h = some (e.c, v, h') ∧ Run P cfg orc ops (l1 ++ l2) ⟨putA s.T e.o.dst v, h'⟩ s'
  | [], s, _, hr => by
    cases hr with
    | cons _ _ _ _ v h' hc hr => exact ⟨v, h', hc, hr⟩
  | y :: l1, s, hf, hr => by
    cases hr with
    | cons _ _ _ _ vy h1 hc hr =>
      obtain ⟨v, h2, hc2, hr2⟩ := Run.pull l1 _ (fun x hx => hf x (by simp [hx])) hr
      obtain ⟨h1', e1, e2, e3⟩ := comm2 (hf y (by simp)).1 (hf y (by simp)).2 hc hc2
      refine ⟨v, h1', e1, .cons y _ _ _ vy h2 e2 ?_⟩
      simp only at e3 hr2 ⊢
      rw [← e3]
      exact hr2

end
end Go.Abs
