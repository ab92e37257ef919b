/- One operation; operations in text order. -/
import Derived.Test.YthiogecmahdmcaaGreatDoorRfxS3
import Derived.Orders
set_option linter.unusedVariables false
set_option linter.unusedSimpArgs false
namespace Go.Abs
open Go.RowKit

section
variable {P : Program} {Γ : Ctx} {W W' : World} {B : Nat} {h : Heap}

theorem done_wp {a : Act} {o : Oper} {v : AV} {h' : Heap} {next : Act → World → Prop} {Q : Exit → Act → World → Prop} (hd : Done P Γ W B a o h' v)
    (hn : ∀ v' W' Γ', Post Γ W B h' v v' Γ' W' → next (a.put o.dst v') W') : o.wp P a W next Q := by
  obtain ⟨v', W', Γ', hr | ⟨hr, hu⟩, p⟩ := hd
  · unfold Oper.wp
    rw [hr, Oper.upon_value]
    exact hn _ _ _ p
  · unfold Oper.wp
    rw [hr, Oper.upon_skip, ← hu]
    exact hn _ _ _ p

theorem value_wp {a : Act} {o : Oper} {v : AV} {next : Act → World → Prop} {Q : Exit → Act → World → Prop} (H : HeapRel Γ W B h) (hd : ∃ v', (execOp a.eval o).run P W = .ok (.value v') W ∧ Rep Γ W v v')
    (hn : ∀ v' W' Γ', Post Γ W B h v v' Γ' W' → next (a.put o.dst v') W') : o.wp P a W next Q := by
  obtain ⟨v', hr, hv⟩ := hd
  unfold Oper.wp
  rw [hr, Oper.upon_value]
  exact hn _ _ _ ⟨H, Ext.refl _ _, Below.refl _ _, hv⟩

theorem call_wp {a : Act} {o : Oper} {f : FuncId} {args : Array Value} {v : AV} {h' : Heap} {next : Act → World → Prop} {Q : Exit → Act → World → Prop} (he : (execOp a.eval o).run P W = (callFunc f args).run P W)
    (hd : CallDone P Γ W B f args h' v) (hn : ∀ v' W' Γ', Post Γ W B h' v v' Γ' W' → next (a.put o.dst v') W') : o.wp P a W next Q := by
  unfold Oper.wp
  rw [he]
  rcases hd with ⟨v', W', Γ', hr, p⟩ | ⟨hr, hc⟩
  · rw [hr, Oper.upon_value]
    exact hn _ _ _ p
  · rw [hr, Oper.upon_enter]
    refine Calls.mono hc ?_
    rintro e W' ⟨v', Γ', rfl, p⟩
    exact hn _ _ _ p

theorem opA_wp {cfg : Cfg} {orc : Orc} {own draw : Bool} {s : St} {a : Act} {o : Oper} {c : Cls} {v : AV} {h' : Heap} {next : Act → World → Prop} {Q : Exit → Act → World → Prop} (ok : CfgOk P cfg) (so : SoundO P orc)
    (R : ActRel Γ W s.T a) (H : HeapRel Γ W B s.h) (hB : B ≤ W.heap.size) (hop : opA P cfg orc own draw s o.op = some (c, v, h'))
    (hn : ∀ v' W' Γ', Post Γ W B h' v v' Γ' W' → next (a.put o.dst v') W') : o.wp P a W next Q := by
  unfold opA at hop
  split at hop
  · rename_i f args ats ho
    split at hop
    · rename_i fv as hf has
      cases fv with
      | fn g caps =>
        obtain ⟨ws, hev, h1, h2⟩ := rep_fn (evA_rep R hf)
        obtain ⟨e1, e2⟩ := mapO_evA R has
        have hr : Reps Γ W (as ++ caps) (args.toList.map a.eval ++ ws) := by
          refine ⟨by simp only [List.length_append]; omega, fun i x y hx hy => ?_⟩
          rw [List.getElem?_append] at hx hy
          rw [e1] at hy
          split at hx
          · rename_i hi
            rw [if_pos hi] at hy
            exact e2 i x y hx hy
          · rename_i hi
            rw [if_neg hi] at hy
            exact h2 _ x y hx hy
        have hd := callA_done (ws := ws) ok so H hB hop hr
        refine call_wp (f := g) ?_ hd hn
        simp only [execOp, ho, resolve, hev, Deferred.ofValue, Sem.run_bind, Sem.run_pure, Result.andThen_ok, invoke]
        congr 2
        apply Array.ext'
        simp
      | _ => simp [callA] at hop
    · cases hop
  · split at hop
    · rename_i v1 hP
      simp only [Option.some.injEq, Prod.mk.injEq] at hop
      obtain ⟨-, rfl, rfl⟩ := hop
      by_cases hbs : ∃ t n p, o.op = .buildSlice t n p
      · obtain ⟨t, n, p, ho⟩ := hbs
        rw [ho] at hP
        simp only [opP] at hP
        split at hP
        · cases hP
        · split at hP
          · rename_i ps hps
            split at hP
            · rename_i cells y hlit
              split at hP
              · rename_i hall
                injection hP with hP
                subst hP
                obtain ⟨size, elem⟩ := y
                obtain ⟨v', W', G', hr, g1, g2, g3, g4, ha, hrep⟩ := litP_done R ho hps hlit hall H.G
                unfold Oper.wp
                rw [hr, Oper.upon_value]
                refine hn v' W' (Γ.guard G') ⟨H.more hB g1 g2 g3 g4, ext_more H g1 (fun β o hG => (g2 β o hG).imp id (fun h => by have := H.eB; omega)) g3, ⟨ha.os, ha.tape, ha.output, g4, fun i hi => g3 i (by omega)⟩, .cl _ _ hrep⟩
              · cases hP
            · cases hP
          · cases hP
      · exact value_wp H (opP_rep R hP (fun t n p e => hbs ⟨t, n, p, e⟩)) hn
    · split at hop
      · rename_i v1 hC
        simp only [Option.some.injEq, Prod.mk.injEq] at hop
        obtain ⟨-, rfl, rfl⟩ := hop
        exact value_wp H (opC_rep R H hC) hn
      · split at hop
        · rename_i v1 h1 hL
          simp only [Option.some.injEq, Prod.mk.injEq] at hop
          obtain ⟨-, rfl, rfl⟩ := hop
          exact done_wp (opL_rep R H hB hL) hn
        · cases hop

theorem want_rep {ops : Array Oper} {T : List AV} {a : Act} {o : Oper} {b : Bool} (R : ActRel Γ W T a) (hw : wantA ops.toList T o = some b) : Region.wanted o (yielded ops a.tmps) = b := by
  unfold wantA at hw
  unfold Region.wanted
  split at hw
  · rename_i hg
    rw [hg]
    injection hw
  · rename_i j want hg
    rw [hg]
    simp only
    unfold yielded
    rw [Array.getElem?_toList] at hw
    split at hw
    · rename_i hd
      rw [hd]
      injection hw with hw
    · rename_i d hd
      rw [hd]
      have hrep := R.rep d
      split at hw
      · rename_i b' hb
        rw [hb] at hrep
        have e := rep_bool hrep
        injection hw with hw
        subst hw
        have hd' : a.tmps[d]? = some (.bool b') := by
          rw [Array.getD_eq_getD_getElem?] at e
          cases ht : a.tmps[d]? with
          | none =>
            rw [ht] at e
            simp [undef] at e
          | some u =>
            rw [ht] at e
            simp at e
            rw [e]
        simp only [Option.bind_some, hd']
        cases b' <;> cases want <;> rfl
      · rename_i hb
        rw [hb] at hrep
        obtain ⟨ws, e, h1, _⟩ := rep_tup hrep
        injection hw with hw
        subst hw
        obtain rfl : ws = [] := List.eq_nil_of_length_eq_zero (by simpa using h1)
        rw [Array.getD_eq_getD_getElem?] at e
        simp only [Option.bind_some]
        cases ht : a.tmps[d]? with
        | none => rfl
        | some u =>
          rw [ht] at e
          simp at e
          subst e
          rfl
      · cases hw

/-- The state of a run: relative to the world and the context in which it began. -/
structure Holds (Γ0 : Ctx) (W0 : World) (B : Nat) (s : St) (Γ : Ctx) (a : Act) (W : World) : Prop where
  act : ActRel Γ W s.T a
  heap : HeapRel Γ W B s.h
  ext : Ext Γ0 W0 Γ W
  bel : Below B W0 W
  lo : B ≤ W0.heap.size
  defs : a.defers = []

def Inv (Γ0 : Ctx) (W0 : World) (B : Nat) (s : St) (a : Act) (W : World) : Prop := ∃ Γ, Holds Γ0 W0 B s Γ a W

theorem put_defers (a : Act) (dst : Option Tmp) (v : Value) : (a.put dst v).defers = a.defers := by cases dst <;> rfl

theorem Holds.post {Γ0 : Ctx} {W0 : World} {s : St} {a : Act} {v : AV} {v' : Value} {h' : Heap} {Γ' : Ctx} (H : Holds Γ0 W0 B s Γ a W) (dst : Option Tmp) (p : Post Γ W B h' v v' Γ' W') :
    Holds Γ0 W0 B ⟨putA s.T dst v, h'⟩ Γ' (a.put dst v') W' :=
  ⟨(H.act.ext p.ext).put dst p.rep, p.rel, H.ext.trans p.ext, H.bel.trans p.bel, H.lo, by rw [put_defers]; exact H.defs⟩

theorem Holds.skip {Γ0 : Ctx} {W0 : World} {s : St} {a : Act} (H : Holds Γ0 W0 B s Γ a W) (dst : Option Tmp) : Holds Γ0 W0 B ⟨putA s.T dst undefA, s.h⟩ Γ (a.put dst undef) W :=
  ⟨H.act.put dst (Rep.undef _ _), H.heap, H.ext, H.bel, H.lo, by rw [put_defers]; exact H.defs⟩

theorem Holds.size {Γ0 : Ctx} {W0 : World} {s : St} {a : Act} (H : Holds Γ0 W0 B s Γ a W) : B ≤ W.heap.size := Nat.le_trans H.lo H.bel.size

theorem stepA_wp {cfg : Cfg} {orc : Orc} {own : Bool} {Γ0 : Ctx} {W0 : World} {s s' : St} {a : Act} {ops : Array Oper} {i : Nat} {o : Oper} {K : Act → World → Prop} {Q : Exit → Act → World → Prop}
    (ok : CfgOk P cfg) (so : SoundO P orc) (ho : ops[i]? = some o) (hs : stepA P cfg orc own ops.toList o s = some s') (hi : Inv Γ0 W0 B s a W)
    (hk : ∀ a' W', Inv Γ0 W0 B s' a' W' → K a' W') : wpOp P ops Q i K a W := by
  obtain ⟨Γ, H⟩ := hi
  unfold wpOp
  simp only [ho]
  unfold stepA at hs
  split at hs
  · cases hs
  · rename_i hw
    rw [want_rep H.act hw]
    injection hs with hs
    subst hs
    simp only [Bool.false_eq_true, if_false]
    exact hk _ _ ⟨Γ, H.skip _⟩
  · rename_i hw
    rw [want_rep H.act hw]
    simp only [if_true]
    split at hs
    · rename_i c v h' hop
      injection hs with hs
      subst hs
      exact .inl (opA_wp ok so H.act H.heap H.size hop (fun v' W' Γ' p => hk _ _ ⟨Γ', H.post _ p⟩))
    · cases hs

theorem opsA_wp {cfg : Cfg} {orc : Orc} {own : Bool} {Γ0 : Ctx} {W0 : World} {ops : Array Oper} {Q : Exit → Act → World → Prop} (ok : CfgOk P cfg) (so : SoundO P orc) :
    ∀ (n k : Nat) (s s' : St) (a : Act) (W : World), k + n = ops.size → opsA P cfg orc own ops.toList (ops.toList.drop k) s = some s' → Inv Γ0 W0 B s a W → (∀ a' W', Inv Γ0 W0 B s' a' W' → Q .normal a' W') →
      wpOps P ops Q (List.range' k n) a W
  | 0, k, s, s', a, W, hn, hs, hi, hq => by
    rw [List.drop_eq_nil_of_le (by rw [Array.length_toList]; omega)] at hs
    simp only [opsA, Option.some.injEq] at hs
    subst hs
    exact hq _ _ hi
  | n + 1, k, s, s', a, W, hn, hs, hi, hq => by
    have hlt : k < ops.toList.length := by rw [Array.length_toList]; omega
    rw [List.drop_eq_getElem_cons hlt] at hs
    simp only [opsA] at hs
    split at hs
    · rename_i s1 hs1
      rw [List.range'_succ, wpOps_cons]
      refine stepA_wp ok so (o := ops.toList[k]) (by rw [← Array.getElem?_toList]; exact List.getElem?_eq_getElem hlt) hs1 hi (fun a' W' hi' => ?_)
      exact opsA_wp ok so n (k + 1) s1 s' a' W' (by omega) hs hi' hq
    · cases hs

theorem regionA_wp {cfg : Cfg} {orc : Orc} {own : Bool} {Γ0 : Ctx} {W0 : World} {ops : Array Oper} {Q : Exit → Act → World → Prop} {id : Nat} {s s' : St} {a : Act} (ok : CfgOk P cfg) (so : SoundO P orc)
    (hs : opsA P cfg orc own ops.toList ops.toList s = some s') (hi : Inv Γ0 W0 B s a W) (hq : ∀ a' W', Inv Γ0 W0 B s' a' W' → Q .normal a' W') : (Code.region id ops false).wp P Q a W := by
  refine wp_region ?_
  rw [List.range_eq_range']
  exact opsA_wp ok so ops.size 0 s s' a W (by omega) (by simpa using hs) hi hq

end
end Go.Abs
