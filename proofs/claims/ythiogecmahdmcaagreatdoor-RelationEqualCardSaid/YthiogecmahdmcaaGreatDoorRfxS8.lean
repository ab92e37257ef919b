/- Regions, code, functions; the interpreter is sound. -/
import Derived.Test.YthiogecmahdmcaaGreatDoorRfxS7
import Derived.Scope
set_option linter.unusedVariables false
set_option linter.unusedSimpArgs false
namespace Go.Abs
open Go.RowKit

section
variable {P : Program} {Γ : Ctx} {W W' : World} {B : Nat} {h : Heap} {cfg : Cfg} {orc : Orc} {Γ0 : Ctx} {W0 : World}

theorem Inv.same {s : St} {a : Act} (hi : Inv Γ0 W0 B s a W) (hh : W'.heap = W.heap) (ha : Aside W W') : Inv Γ0 W0 B s a W' := by
  obtain ⟨Γ, H⟩ := hi
  have e : Ext Γ W (Γ.guard Γ.G) W' := ext_more H.heap (fun β o h => h) (fun β o h => .inl h) (fun β _ => by rw [hh])
  refine ⟨Γ.guard Γ.G, ⟨H.act.ext e, H.heap.more H.size (fun β o h => h) (fun β o h => .inl h) (fun β _ => by rw [hh]) (by rw [hh]; exact Nat.le_refl _), H.ext.trans e, H.bel.trans ⟨ha.os, ha.tape, ha.output, by rw [hh]; exact Nat.le_refl _, fun i _ => by rw [hh]⟩, H.lo, H.defs⟩⟩

/-- One block more that is not born. -/
theorem HeapRel.lay (H : HeapRel Γ W B h) : HeapRel { Γ with N := Γ.N + 1 } W B (h ++ [⟨0, true, default, true, true, []⟩]) ∧ Ext Γ W { Γ with N := Γ.N + 1 } W := by
  have e : Ext Γ W { Γ with N := Γ.N + 1 } W := ⟨rfl, fun _ h => h, fun b q hb hq => ⟨q, hq, .inl rfl⟩, fun _ _ h => ⟨h, rfl⟩, fun _ _ h => .inl h⟩
  have hget : ∀ (b : Nat) (k : Blk), (h ++ [⟨0, true, default, true, true, []⟩])[b]? = some k → (h[b]? = some k) ∨ (b = h.length ∧ k.dead = true) := by
    intro b k hk
    rw [List.getElem?_append] at hk
    split at hk
    · exact .inl hk
    · rename_i hlt
      have hbe : b = h.length := by
        have := (List.getElem?_eq_some_iff.1 hk).1
        simp at this
        omega
      subst hbe
      simp at hk
      exact .inr ⟨rfl, by rw [← hk]⟩
  refine ⟨⟨H.eB, by simp [H.n], fun b hb => by have := H.bn b hb; simp; omega, fun b k hk hd hf hb => ?_, fun b k hk hd => ?_, fun b q hq => ?_, H.inj, H.G⟩, e⟩
  · rcases hget b k hk with hk | ⟨hbe, _⟩
    · exact H.ub b k hk hd hf hb
    · have := H.bn b hb
      omega
  · rcases hget b k hk with hk | ⟨_, hd'⟩
    · obtain ⟨q, hq, ok⟩ := H.blk b k hk hd
      exact ⟨q, hq, ok.ext e rfl (fun o ho => ho)⟩
    · rw [hd] at hd'
      cases hd'
  · obtain ⟨hb, k, hk, hd⟩ := H.back b q hq
    exact ⟨hb, k, by rw [List.getElem?_append_left (List.getElem?_eq_some_iff.1 hk).1]; exact hk, hd⟩

theorem Inv.pre {a : Act} {T : List AV} : ∀ (l : List (Oper × Option Nat)) (h : Heap), Inv Γ0 W0 B ⟨T, h⟩ a W → Inv Γ0 W0 B ⟨T, preA l h⟩ a W
  | [], h, hi => hi
  | (_, none) :: l, h, hi => Inv.pre l h hi
  | (_, some _) :: l, h, hi => by
    refine Inv.pre l _ ?_
    obtain ⟨Γ, H⟩ := hi
    obtain ⟨r1, r2⟩ := H.heap.lay
    exact ⟨_, H.act.ext r2, r1, H.ext.trans r2, H.bel, H.lo, H.defs⟩

def mkE : Nat → List (Oper × Option Nat) → List Cls → List Ent
  | i, o :: r, c :: cs => ⟨i, o.1, o.2, c⟩ :: mkE (i + 1) r cs
  | _, _, _ => []

theorem mkE_mem : ∀ (l : List (Oper × Option Nat)) (cs : List Cls) (i : Nat) (e : Ent), e ∈ mkE i l cs → ∃ j, e.i = i + j ∧ l[j]? = some (e.o, e.ko) ∧ cs[j]? = some e.c
  | [], cs, i, e, h => by simp [mkE] at h
  | o :: l, [], i, e, h => by simp [mkE] at h
  | o :: l, c :: cs, i, e, h => by
    simp only [mkE, List.mem_cons] at h
    rcases h with rfl | h
    · exact ⟨0, rfl, rfl, rfl⟩
    · obtain ⟨j, h1, h2, h3⟩ := mkE_mem l cs (i + 1) e h
      exact ⟨j + 1, by omega, by simpa using h2, by simpa using h3⟩

theorem mkE_len : ∀ (l : List (Oper × Option Nat)) (cs : List Cls) (i : Nat), cs.length = l.length → (mkE i l cs).length = l.length
  | [], [], i, h => rfl
  | o :: l, c :: cs, i, h => by simp [mkE, mkE_len l cs (i + 1) (by simpa using h)]
  | [], c :: cs, i, h => by cases h
  | o :: l, [], i, h => by cases h

theorem mkE_all : ∀ (l : List (Oper × Option Nat)) (cs : List Cls) (i j : Nat), cs.length = l.length → j < l.length → ∃ e ∈ mkE i l cs, e.i = i + j
  | [], cs, i, j, h, hj => by simp at hj
  | o :: l, [], i, j, h, hj => by cases h
  | o :: l, c :: cs, i, j, h, hj => by
    cases j with
    | zero => exact ⟨⟨i, o.1, o.2, c⟩, by simp [mkE], rfl⟩
    | succ j =>
      obtain ⟨e, he, hi⟩ := mkE_all l cs (i + 1) j (by simpa using h) (by simpa using hj)
      exact ⟨e, by simp [mkE, he], by omega⟩

theorem mkE_sorted : ∀ (l : List (Oper × Option Nat)) (cs : List Cls) (i : Nat), (mkE i l cs).Pairwise fun e e' => e.i < e'.i
  | [], cs, i => by simp [mkE]
  | o :: l, [], i => by simp [mkE]
  | o :: l, c :: cs, i => by
    simp only [mkE, List.pairwise_cons]
    refine ⟨fun e he => ?_, mkE_sorted l cs (i + 1)⟩
    obtain ⟨j, h1, _⟩ := mkE_mem l cs (i + 1) e he
    omega

theorem annA_get : ∀ (l : List Oper) (k j : Nat), ((annA cfg l k)[j]?).map (·.1) = l[j]?
  | [], k, j => by simp [annA]
  | o :: l, k, j => by
    simp only [annA]
    split
    · cases j with
      | zero => rfl
      | succ j => simpa using annA_get l (k + 1) j
    · cases j with
      | zero => rfl
      | succ j => simpa using annA_get l k j

theorem annA_len : ∀ (l : List Oper) (k : Nat), (annA cfg l k).length = l.length
  | [], k => rfl
  | o :: l, k => by
    simp only [annA]
    split
    · simp [annA_len l (k + 1)]
    · simp [annA_len l k]

theorem opsD_run {ops : Array Oper} : ∀ (l : List (Oper × Option Nat)) (s s' : St) (cs : List Cls) (i : Nat), opsD P cfg orc ops.toList l s = some (cs, s') → cs.length = l.length ∧ Run P cfg orc ops (mkE i l cs) s s'
  | [], s, s', cs, i, h => by
    simp only [opsD, Option.some.injEq, Prod.mk.injEq] at h
    obtain ⟨rfl, rfl⟩ := h
    exact ⟨rfl, .nil s⟩
  | o :: l, s, s', cs, i, h => by
    simp only [opsD] at h
    split at h
    · rename_i c s1 hs
      split at h
      · rename_i cs1 s2 hl
        simp only [Option.some.injEq, Prod.mk.injEq] at h
        obtain ⟨rfl, rfl⟩ := h
        obtain ⟨h1, h2⟩ := opsD_run l s1 s2 cs1 (i + 1) hl
        obtain ⟨v, h', hc, rfl⟩ := stepD_core hs
        exact ⟨by simp [h1], .cons ⟨i, o.1, o.2, c⟩ _ _ _ v h' hc h2⟩
      · cases h
    · cases h

theorem regionD_wp {ops : Array Oper} {Q : Exit → Act → World → Prop} {id : Nat} {s s' : St} {a : Act} (ok : CfgOk P cfg) (so : SoundO P orc) (hm : P.follows .mixedOrders = true)
    (hs : regionD P cfg orc ops.toList s = some s') (hi : Inv Γ0 W0 B s a W) (hq : ∀ a' W', Inv Γ0 W0 B s' a' W' → Q .normal a' W') : (Code.region id ops true).wp P Q a W := by
  refine wp_region_any hm ?_
  unfold regionD at hs
  simp only at hs
  split at hs
  · rename_i cs s1 hD
    split at hs
    · rename_i hok
      injection hs with hs
      subst hs
      simp only [Bool.and_eq_true] at hok
      obtain ⟨hst, hhp⟩ := hok
      obtain ⟨hl, hrun⟩ := opsD_run _ _ _ _ 0 hD
      have hlen : (annA cfg ops.toList s.h.length).length = ops.size := by rw [annA_len]; simp
      have hi1 : Inv Γ0 W0 B ⟨s.T, preA (annA cfg ops.toList s.h.length) s.h⟩ a { W with drawn := W.drawn + 1 } := (Inv.pre _ _ hi).same rfl ⟨rfl, rfl, rfl⟩
      unfold statOk at hst
      simp only [Bool.and_eq_true] at hst
      obtain ⟨hback, hst⟩ := hst
      have hop : ∀ e ∈ mkE 0 (annA cfg ops.toList s.h.length) cs, ops[e.i]? = some e.o ∧ cs[e.i]? = some e.c := by
        intro e he
        obtain ⟨j, h1, h2, h3⟩ := mkE_mem _ _ _ e he
        have := annA_get (cfg := cfg) ops.toList s.h.length j
        rw [h2] at this
        rw [h1, Nat.zero_add]
        exact ⟨by rw [← Array.getElem?_toList, ← this]; rfl, h3⟩
      refine any_wp ok so hq ops.size _ _ _ _ _ (by rw [mkE_len _ _ _ hl, hlen]) ⟨by simp, fun j => ?_, mkE_sorted _ _ _, fun e he => (hop e he).1, fun j hj => ?_, fun e he e' he' hlt => ?_, fun j o ho e he hb => ?_⟩ hrun hi1
      · constructor
        · intro h
          have hj : j < ops.size := by
            rcases Nat.lt_or_ge j ops.size with h1 | h1
            · exact h1
            · simp [Array.getD_eq_getD_getElem?, Array.getElem?_replicate, Nat.not_lt.2 h1] at h
          obtain ⟨e, he, hi⟩ := mkE_all (annA cfg ops.toList s.h.length) cs 0 j hl (by omega)
          exact ⟨e, he, by omega⟩
        · rintro ⟨e, he, rfl⟩
          have hj : e.i < ops.size := (Array.getElem?_eq_some_iff.1 (hop e he).1).1
          simp [Array.getD_eq_getD_getElem?, Array.getElem?_replicate, hj]
      · exfalso
        simp only [Array.getD_eq_getD_getElem?, Array.getElem?_replicate] at hj
        split at hj <;> simp at hj
      · obtain ⟨o1, c1⟩ := hop e he
        obtain ⟨o2, c2⟩ := hop e' he'
        have hj : e'.i < ops.size := (Array.getElem?_eq_some_iff.1 o2).1
        have p1 := pairs_spec hst hlt (by simpa using hj)
        simp only [Array.getElem?_toList, o1, o2, Bool.or_eq_true] at p1
        rcases p1 with p1 | p1
        · unfold heapOk at hhp
          split at hhp
          · rename_i hall
            refine .inl ⟨p1, ?_⟩
            have n1 := List.all_eq_true.1 hall e.c (List.mem_of_getElem? c1)
            have n2 := List.all_eq_true.1 hall e'.c (List.mem_of_getElem? c2)
            revert n1 n2
            cases e.c <;> cases e'.c <;> simp [Cls.isL, Cls.clash]
          · have p2 := pairs_spec hhp hlt (by simpa using hj)
            simp only [c1, c2, Bool.or_eq_true, Bool.not_eq_true'] at p2
            rcases p2 with p2 | p2
            · exact .inl ⟨p1, p2⟩
            · exact .inr p2
        · exact .inr p1
      · have hj : j < ops.toList.length := by rw [Array.length_toList]; exact (Array.getElem?_eq_some_iff.1 ho).1
        have := List.all_eq_true.1 hback (o, j) (by
          rw [List.mem_zipIdx_iff_getElem?]
          simpa using ho)
        have h2 := List.all_eq_true.1 this e (by simpa using he)
        simpa [hb] using h2
    · cases hs
  · cases hs

/-! ### Code -/
theorem Inv.head {s : St} {a : Act} (hi : Inv Γ0 W0 B s a W) (d : List Tmp) (m : Nat) (hm : ∀ b, Γ0.born b → b < m) : Inv Γ0 W0 B (headA d m s) a W := by
  obtain ⟨Γ, H⟩ := hi
  unfold headA
  split
  · exact ⟨Γ, H⟩
  · have R := keep_act H.act d
    rcases gcA_cases m ⟨keepA 0 d s.T, s.h⟩ with e | ⟨ids, T, h1, h2, e, hT, hh1, hh2, hd, hge, hmh⟩
    · rw [e]
      exact ⟨Γ, ⟨R, H.heap, H.ext, H.bel, H.lo, H.defs⟩⟩
    · rw [e]
      exact ⟨renCtx Γ m ids, ⟨ren_act H.heap R hT, ren_heap H.heap hh1 hh2 hd hge hmh, ren_ext H.ext hm, H.bel, H.lo, H.defs⟩⟩

def Ex.out : Ex → Exit
  | .normal => .normal
  | .exit id => .exit id
  | .ret => .ret

theorem code_wp (ok : CfgOk P cfg) (so : SoundO P orc) (hm : P.follows .mixedOrders = true) (own : Bool) (fuel : Nat) (dead : Nat → List Tmp) :
    ∀ (c : Code) (s s' : St) (ex : Ex) (Q : Exit → Act → World → Prop) (a : Act) (W : World), codeA P cfg orc own fuel dead c s = some (ex, s') → Inv Γ0 W0 B s a W →
      (∀ a' W', Inv Γ0 W0 B s' a' W' → Q ex.out a' W') → c.wp P Q a W := by
  intro c
  induction c with
  | skip =>
    intro s s' ex Q a W hc hi hq
    simp only [codeA, Option.some.injEq, Prod.mk.injEq] at hc
    obtain ⟨rfl, rfl⟩ := hc
    exact wp_skip (hq _ _ hi)
  | label l =>
    intro s s' ex Q a W hc hi hq
    simp only [codeA, Option.some.injEq, Prod.mk.injEq] at hc
    obtain ⟨rfl, rfl⟩ := hc
    exact wp_label (hq _ _ hi)
  | ret =>
    intro s s' ex Q a W hc hi hq
    simp only [codeA, Option.some.injEq, Prod.mk.injEq] at hc
    obtain ⟨rfl, rfl⟩ := hc
    exact wp_ret (hq _ _ hi)
  | exit id =>
    intro s s' ex Q a W hc hi hq
    simp only [codeA, Option.some.injEq, Prod.mk.injEq] at hc
    obtain ⟨rfl, rfl⟩ := hc
    exact wp_exit (hq _ _ hi)
  | goto l =>
    intro s s' ex Q a W hc hi hq
    cases hc
  | region id ops draw =>
    intro s s' ex Q a W hc hi hq
    simp only [codeA] at hc
    split at hc
    · rename_i s1 hs
      simp only [Option.some.injEq, Prod.mk.injEq] at hc
      obtain ⟨rfl, rfl⟩ := hc
      cases draw with
      | true => exact regionD_wp ok so hm (by simpa using hs) hi hq
      | false => exact regionA_wp ok so (by simpa using hs) hi hq
    · cases hc
  | seq x y ihx ihy =>
    intro s s' ex Q a W hc hi hq
    simp only [codeA] at hc
    split at hc
    · rename_i s1 hx
      exact wp_seq (ihx s s1 .normal _ a W hx hi (fun a' W' hi' => ihy s1 s' ex Q a' W' hc hi' hq))
    · rename_i hne
      refine wp_seq (ihx s s' ex _ a W hc hi (fun a' W' hi' => ?_))
      have := hq a' W' hi'
      cases ex with
      | normal => exact absurd hc (hne _)
      | exit id => exact this
      | ret => exact this
  | cond x c1 c2 ih1 ih2 =>
    intro s s' ex Q a W hc hi hq
    simp only [codeA] at hc
    split at hc
    · rename_i t ht
      obtain ⟨Γ, H⟩ := hi
      have hx := rep_bool (evA_rep H.act ht)
      cases t with
      | true => exact wp_cond hx (ih1 s s' ex Q a W hc ⟨Γ, H⟩ hq)
      | false => exact wp_cond hx (ih2 s s' ex Q a W hc ⟨Γ, H⟩ hq)
    · cases hc
  | block id c ih =>
    intro s s' ex Q a W hc hi hq
    simp only [codeA] at hc
    split at hc
    · rename_i id' s1 hx
      refine wp_block (ih s s1 (.exit id') _ a W hx hi (fun a' W' hi' => ?_))
      simp only [Ex.out, Exit.inBlock]
      split at hc
      · rename_i hid
        simp only [Option.some.injEq, Prod.mk.injEq] at hc
        obtain ⟨rfl, rfl⟩ := hc
        rw [if_pos hid]
        exact hq _ _ hi'
      · rename_i hid
        simp only [Option.some.injEq, Prod.mk.injEq] at hc
        obtain ⟨rfl, rfl⟩ := hc
        rw [if_neg hid]
        exact hq _ _ hi'
    · rename_i hne
      refine wp_block (ih s s' ex _ a W hc hi (fun a' W' hi' => ?_))
      have := hq a' W' hi'
      cases ex with
      | normal => exact this
      | exit id => exact absurd hc (hne _ _)
      | ret => exact this
  | loop c ih =>
    intro s s' ex Q a W hc hi hq
    simp only [codeA] at hc
    have hm0 : ∀ b, Γ0.born b → b < s.h.length := by
      obtain ⟨Γ, H⟩ := hi
      exact fun b hb => H.heap.bn b (H.ext.n b hb)
    have key : ∀ (m : Nat) (hm : ∀ b, Γ0.born b → b < m) (n : Nat) (s : St) (a : Act) (W : World), iterA (codeA P cfg orc own fuel dead c) (headA (dead (keyA c)) m) n s = some (ex, s') → Inv Γ0 W0 B s a W → ∀ (b : Frame) (k : List Item) (cs : List Frame),
        ∃ e a' w', Q e a' w' ∧ Arrives P (lone (b.at a (.code c :: .inLoop c :: k)) cs W) b k cs e a' w' := by
      intro m hm1 n
      induction n with
      | zero => intro s a W h; cases h
      | succ n ihn =>
        intro s a W h hi0 b k cs
        have hi := hi0.head (dead (keyA c)) m hm1
        simp only [iterA] at h
        split at h
        · rename_i s1 hx
          obtain ⟨e, a1, w1, ⟨rfl, hi1⟩, harr⟩ := ih _ s1 .normal (fun e a w => e = .normal ∧ Inv Γ0 W0 B s1 a w) a W hx hi (fun a' W' hi' => ⟨rfl, hi'⟩) b (.inLoop c :: k) cs
          obtain ⟨e2, a2, w2, hq2, harr2⟩ := ihn s1 a1 w1 h hi1 b k cs
          exact ⟨e2, a2, w2, hq2, .of_steps (Steps.trans harr (.one step_inLoop)) harr2⟩
        · rename_i hne
          obtain ⟨e, a1, w1, ⟨rfl, hi1⟩, harr⟩ := ih _ s' ex (fun e a w => e = ex.out ∧ Inv Γ0 W0 B s' a w) a W h hi (fun a' W' hi' => ⟨rfl, hi'⟩) b (.inLoop c :: k) cs
          refine ⟨_, a1, w1, hq _ _ hi1, ?_⟩
          cases ex with
          | normal => exact absurd h (hne _)
          | exit id => exact .pass (x := .inLoop c) rfl (fun _ _ => .inl (by simp [Ex.out])) harr
          | ret => exact .pass (x := .inLoop c) rfl (fun _ _ => .inl (by simp [Ex.out])) harr
    intro b k cs
    obtain ⟨e, a', w', hq', harr⟩ := key _ hm0 fuel s a W hc hi b k cs
    exact ⟨e, a', w', hq', .of_steps (.one step_loop) harr⟩
  | scope c ih =>
    intro s s' ex Q a W hc hi hq
    simp only [codeA] at hc
    refine wp_scope_straight (ih s s' ex _ a W hc hi (fun a' W' hi' => ?_))
    have := hq a' W' hi'
    cases ex <;> exact this
  | _ =>
    intros
    rename_i hc _ _
    simp [codeA] at hc

end
end Go.Abs
