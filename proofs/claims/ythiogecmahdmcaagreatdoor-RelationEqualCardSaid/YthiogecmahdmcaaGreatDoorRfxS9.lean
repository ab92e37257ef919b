/- Functions; the interpreter itself. -/
import Derived.Test.YthiogecmahdmcaaGreatDoorRfxS8
set_option linter.unusedVariables false
set_option linter.unusedSimpArgs false
namespace Go.Abs
open Go.RowKit

section
variable {P : Program} {Γ : Ctx} {W W' : World} {B : Nat} {h : Heap} {cfg : Cfg} {orc : Orc} {Γ0 : Ctx} {W0 : World}

theorem run_mapM {f : ResultVar → Sem Value} {g : ResultVar → Option AV} (hf : ∀ x v, g x = some v → ∃ u, (f x).run P W = .ok u W ∧ Rep Γ W v u) :
    ∀ (l : List ResultVar) (vs : List AV), mapO g l = some vs → ∃ us : List Value, (l.mapM f).run P W = .ok us W ∧ us.length = vs.length ∧ ∀ (i : Nat) x y, vs[i]? = some x → us[i]? = some y → Rep Γ W x y
  | [], vs, h => by
    simp only [mapO, Option.some.injEq] at h
    subst h
    exact ⟨[], by simp, rfl, fun i x y hx => by simp at hx⟩
  | x :: l, vs, h => by
    simp only [mapO] at h
    split at h
    · cases h
    · rename_i v hv
      split at h
      · cases h
      · rename_i vs1 hvs
        injection h with h
        subst h
        obtain ⟨u, hu, hru⟩ := hf x v hv
        obtain ⟨us, hus, hl, hr⟩ := run_mapM hf l vs1 hvs
        refine ⟨u :: us, ?_, by simp [hl], fun i x y hx hy => ?_⟩
        · rw [List.mapM_cons]
          simp only [Sem.run_bind, hu, Result.andThen_ok, hus, Sem.run_pure]
        · cases i with
          | zero =>
            simp at hx hy
            subst hx hy
            exact hru
          | succ i => exact hr i x y (by simpa using hx) (by simpa using hy)

def resF (tmps : Array Value) : ResultVar → Sem Value
  | .tmp t => pure (tmps.getD t undef)
  | .cell a t => do loadVar t (← asAddr (tmps.getD a undef))

theorem results_eq (fn : Func) (tmps : Array Value) : results fn tmps = (do
    let vs ← fn.results.mapM (resF tmps)
    pure (if h : vs.size = 1 then vs[0] else .tuple vs)) := rfl

theorem results_rep {fn : Func} {T : List AV} {a : Act} {r : AV} (R : ActRel Γ W T a) (H : HeapRel Γ W B h) (hr : resultsA P fn T h = some r) : ∃ v, (results fn a.tmps).run P W = .ok v W ∧ Rep Γ W r v := by
  unfold resultsA at hr
  have key : ∀ vs, mapO (resA P T h) fn.results.toList = some vs → ∃ us : List Value, (fn.results.mapM (resF a.tmps)).run P W = .ok us.toArray W ∧
      us.length = vs.length ∧ ∀ (i : Nat) x y, vs[i]? = some x → us[i]? = some y → Rep Γ W x y := by
    intro vs hvs
    obtain ⟨us, h1, h2, h3⟩ := run_mapM (P := P) (Γ := Γ) (W := W) (f := resF a.tmps) (g := resA P T h) (fun x v hx => by
      cases x with
      | tmp t =>
        simp only [resA, Option.some.injEq] at hx
        subst hx
        exact ⟨_, by simp [resF], R.rep t⟩
      | cell c t =>
        simp only [resA] at hx
        split at hx
        · rename_i b ver off hc
          split at hx
          · rename_i k hk
            obtain ⟨q, hq, hver, ok⟩ := H.get hk
            have hrep := R.rep c
            rw [hc] at hrep
            obtain ⟨ad, he, _, hg⟩ := rep_ptr hrep
            have e1 := (hg q hq).2 hver
            subst e1
            obtain ⟨v', hr, hv⟩ := loadL_rep (P := P) hx (ok.lies off)
            exact ⟨v', by simp [resF, he, asAddr, hr], hv⟩
          · cases hx
        · cases hx) fn.results.toList vs hvs
    refine ⟨us, ?_, h2, h3⟩
    rw [Array.mapM_eq_mapM_toList]
    simp only [map_eq_pure_bind, Sem.run_bind, h1, Result.andThen_ok, Sem.run_pure]
  split at hr
  · rename_i v hvs
    injection hr with hr
    subst hr
    obtain ⟨us, h1, h2, h3⟩ := key _ hvs
    match us, h2 with
    | [u], _ =>
      refine ⟨u, ?_, h3 0 _ _ rfl rfl⟩
      rw [results_eq]
      simp only [Sem.run_bind, h1, Result.andThen_ok, Sem.run_pure]
      rfl
  · rename_i vs hne hvs
    injection hr with hr
    subst hr
    obtain ⟨us, h1, h2, h3⟩ := key _ hvs
    refine ⟨.tuple us.toArray, ?_, .tup _ _ h2 h3⟩
    rw [results_eq]
    have hsz : ¬ us.toArray.size = 1 := by
      intro h
      have : vs.length = 1 := by rw [← h2]; simpa using h
      match vs, this with
      | [v], _ => exact hne v rfl
    simp only [Sem.run_bind, h1, Result.andThen_ok, Sem.run_pure]
    rw [dif_neg hsz]
  · cases hr

/-- The slots at a function's beginning. -/
theorem start_rep {as : List AV} {args : List Value} (hr : Reps Γ W as args) (n : Nat) :
    ActRel Γ W (as ++ List.replicate (n - as.length) undefA) ⟨args.toArray ++ Array.replicate (n - args.toArray.size) undef, []⟩ := by
  have hl := hr.1
  refine ⟨by simp [hl], fun t => ?_⟩
  simp only [List.getD_eq_getElem?_getD, Array.getD_eq_getD_getElem?, List.getElem?_append, Array.getElem?_append, List.size_toArray, hl]
  by_cases ht : t < as.length
  · have ht' : t < args.length := by omega
    rw [if_pos ht, if_pos ht]
    have := hr.2 t as[t] args[t] (List.getElem?_eq_getElem ht) (List.getElem?_eq_getElem ht')
    simpa [ht, ht'] using this
  · rw [if_neg ht, if_neg ht]
    simp only [List.getElem?_replicate, Array.getElem?_replicate]
    split
    · exact Rep.undef Γ W
    · exact Rep.undef Γ W

theorem body_calls (ok : CfgOk P cfg) (so : SoundO P orc) (hm : P.follows .mixedOrders = true) {own : Bool} {fuel : Nat} {dead : Nat → List Tmp} {f : FuncId} {fn : Func} {as : List AV} {args : List Value} {r : AV} {h' : Heap}
    (hf : P.funcs[f]? = some fn) (hb : bodyA P cfg orc own fuel dead fn as h = some (r, h')) (H : HeapRel Γ W B h) (hB : B ≤ W.heap.size) (hr : Reps Γ W as args) :
    Calls P f args.toArray W fun e W' => ∃ v Γ', e = .returned v ∧ Post Γ W B h' r v Γ' W' := by
  unfold bodyA at hb
  split at hb
  · cases hb
  · rename_i c hc
    have hi : Inv Γ W B ⟨as ++ List.replicate (fn.ntmps - as.length) undefA, h⟩ ⟨args.toArray ++ Array.replicate (fn.ntmps - args.toArray.size) undef, []⟩ W :=
      ⟨Γ, ⟨start_rep hr fn.ntmps, H, Ext.refl _ _, Below.refl _ _, hB, rfl⟩⟩
    have fin : ∀ (s : St) (a' : Act) (W' : World), resultsA P fn s.T s.h = some r → s.h = h' → Inv Γ W B s a' W' → a'.defers = [] ∧ ∃ v, (results fn a'.tmps).run P W' = .ok v W' ∧ ∃ v' Γ', Ending.returned v = .returned v' ∧ Post Γ W B h' r v' Γ' W' := by
      rintro s a' W' hres rfl ⟨Γ', H'⟩
      obtain ⟨v, h1, h2⟩ := results_rep (P := P) H'.act H'.heap hres
      exact ⟨H'.defs, v, h1, v, Γ', rfl, ⟨H'.heap, H'.ext, H'.bel, h2⟩⟩
    refine calls_of_wp hf hc ?_
    split at hb
    · rename_i s hcode
      split at hb
      · rename_i r1 hres
        simp only [Option.some.injEq, Prod.mk.injEq] at hb
        obtain ⟨rfl, rfl⟩ := hb
        exact code_wp ok so hm own fuel dead c _ s .normal _ _ W hcode hi (fun a' W' hi' => fin s a' W' hres rfl hi')
      · cases hb
    · rename_i s hcode
      split at hb
      · rename_i r1 hres
        simp only [Option.some.injEq, Prod.mk.injEq] at hb
        obtain ⟨rfl, rfl⟩ := hb
        exact code_wp ok so hm own fuel dead c _ s .ret _ _ W hcode hi (fun a' W' hi' => fin s a' W' hres rfl hi')
      · cases hb
    · cases hb

theorem pureA_sound (ok : CfgOk P cfg) (so : SoundO P orc) (hm : P.follows .mixedOrders = true) {fuel : Nat} {f : FuncId} {as : List AV} {rv : RV} (hp : pureA P cfg orc fuel f as = some rv) :
    rv.single = true ∧ SoundP P f as rv := by
  unfold pureA at hp
  split at hp
  · cases hp
  · rename_i fn hfn
    split at hp
    · rename_i r h' hb
      refine ⟨?_, ?_⟩
      · unfold retP at hp
        have hat : ∀ (l : List AV) (h : Heap) (ex : Option Nat) (done : Bool) (cs : List Comp), compsA h ex done l = some cs → (done = true → cs.all (fun c => !c.isFresh) = true) ∧ atMost1 cs = true := by
          intro l h ex
          induction l with
          | nil =>
            intro done cs hc
            simp only [compsA, Option.some.injEq] at hc
            subst hc
            exact ⟨fun _ => rfl, rfl⟩
          | cons x l ih =>
            intro done cs hc
            simp only [compsA] at hc
            split at hc
            · rename_i c hfr
              split at hc
              · rename_i cs1 hcs
                injection hc with hc
                subst hc
                cases done with
                | true => cases hfr
                | false =>
                  refine ⟨(fun h => by cases h), ?_⟩
                  simp only [atMost1]
                  split
                  · exact (ih true cs1 hcs).1 rfl
                  · exact (ih true cs1 hcs).2
              · cases hc
            · split at hc
              · rename_i a cs1 hsn hcs
                injection hc with hc
                subst hc
                refine ⟨fun hd => ?_, ?_⟩
                · simp only [List.all_cons, (ih done cs1 hcs).1 hd]
                  rfl
                · simpa [atMost1, Comp.isFresh] using (ih done cs1 hcs).2
              · cases hc
        split at hp
        · split at hp
          · rename_i cs hcs
            injection hp with hp
            subst hp
            exact (hat _ _ _ _ _ hcs).2
          · cases hp
        · split at hp
          · injection hp with hp
            subst hp
            rfl
          · cases hp
      · intro W G args hG hl hr
        obtain ⟨f1, f2, f3⟩ := ok.fns f fn hfn
        have H0 : HeapRel ⟨W.heap.size, 0, fun _ => False, fun _ => none, G⟩ W W.heap.size [] :=
          ⟨rfl, rfl, fun b h => h.elim, fun b k h => by simp at h, fun b k h => by simp at h, fun b q h => by simp at h, fun b b' q q' h => by simp at h, hG⟩
        refine Calls.mono (body_calls ok so hm f1 hb H0 (Nat.le_refl _) ⟨hl, fun i x y hx hy => .cl _ _ (hr i x y hx hy)⟩) ?_
        rintro e W' ⟨v, Γ', he, p⟩
        obtain ⟨_, G', g1, g2, hrv⟩ := retP_rep p.rel p.rep hp
        refine ⟨v, G', he, p.bel, fun β o hg => g1 β o (p.ext.G β o hg).1, fun β o hg => ?_, hrv⟩
        rcases g2 β o hg with h1 | h1
        · rcases p.ext.lo β o h1 with h2 | h2
          · exact .inl h2
          · exact .inr ⟨h2, p.rel.G β o h1⟩
        · exact .inr h1
    · cases hp

theorem thrA_sound (ok : CfgOk P cfg) (so : SoundO P orc) (hm : P.follows .mixedOrders = true) {fuel : Nat} {f : FuncId} {as : List AV} {h h' : Heap} {r : AV} (hp : thrA P cfg orc fuel f as h = some (r, h')) :
    SoundT P f as h r h' := by
  unfold thrA at hp
  split at hp
  · cases hp
  · rename_i fn hfn
    obtain ⟨f1, f2, f3⟩ := ok.fns f fn hfn
    exact fun W Γ B args H hB hr => body_calls ok so hm f1 hp H hB hr

/-- THE INTERPRETER IS SOUND. -/
theorem runA_sound (ok : CfgOk P cfg) (hm : P.follows .mixedOrders = true) (fuel : Nat) : ∀ n : Nat, SoundO P (runA P cfg fuel n)
  | 0 => ⟨(fun f as rv h => by cases h), (fun f as h r h' hh => by cases hh)⟩
  | n + 1 => ⟨fun f as rv h => pureA_sound ok (runA_sound ok hm fuel n) hm h, fun f as h r h' hh => thrA_sound ok (runA_sound ok hm fuel n) hm hh⟩

end
end Go.Abs
