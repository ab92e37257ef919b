/- laminalaw39.RelationEqual returns true for every two plans, and its arguments read behind the call as they read before. What the card ties: two tables of the package unicode/utf8. -/
import Derived.Test.YthiogecmahdmcaaGreatDoorRqFn3
import Derived.Test.YthiogecmahdmcaaGreatDoorRqHas
import Derived.Test.YthiogecmahdmcaaGreatDoorCards
import Derived.Test.YthiogecmahdmcaaGreatDoorTie
import Derived.ProofKit
import Derived.Carry
import Derived.Lay
import Derived.LaidMore
import Derived.LaidOnce
import Derived.SevenTiedAt
set_option maxRecDepth 100000
namespace Go.Proofs.YthiogecmahdmcaaGreatDoor
open Go Go.RowKit Go.ChangeShapes Go.WideShapes Go.ChangeAt Go.Abs Go.Ty

theorem own : ownKnob Tryz.prog.godebug = none := by kernel_rfl
theorem laidOut : laidOutB Tryz.prog = true := by kernel_rfl

/-- Types of which plans are made. -/
def plainS : List TypeId := [2, 3, 4, 9, 22, 23, 24, 25, 26, 27, 28, 29, 31, 40, 42, 46, 48, 54, 61, 66, 70, 100]
theorem plain : plainOk Tryz.prog plainS = true := by kernel_rfl

/-- A plan with zero in all its fields. -/
def zeroPlan : Value := .agg #[.int .i64 0, .int .i64 0, .int .i64 0, .string ByteArray.empty, .slice none 0 0, .slice none 0 0, .slice none 0 0, .slice none 0 0, .slice none 0 0, .slice none 0 0, .int .i64 0, .int .i64 0, .slice none 0 0, .slice none 0 0, .slice none 0 0]

/-- What the law's call gives, for every two plans. -/
theorem law {p q : Plan} (hp : p.wf) (hq : q.wf) (W : World) (v0 v1 : Value) (G : Nat → Nat → Prop) (hG : ∀ β o, G β o → β < W.heap.size) (r0 : RepC W G (.agg p.cells) v0) (r1 : RepC W G (.agg q.cells) v1) :
    Calls Tryz.prog 3 #[v0, v1] W fun e W' => e = .returned (.bool true) ∧ Below W.heap.size W W' := by
  obtain ⟨m, hm⟩ := lim_p.1 (Rq.eq_3 hp hq)
  obtain ⟨_, hs⟩ := (runA_sound Rq.cfg_ok Rq.mixed m m).p _ _ _ hm
  refine Calls.mono (hs W G [v0, v1] hG rfl (fun i x y hx hy => ?_)) ?_
  · match i with
    | 0 => simp at hx hy; subst hx hy; exact r0
    | 1 => simp at hx hy; subst hx hy; exact r1
    | i + 2 => simp at hx
  · rintro e W' ⟨v, G', rfl, hb, _, _, hv⟩
    refine ⟨?_, hb⟩
    cases hv with
    | one c v h =>
      cases h with
      | val a v h => cases h; rfl

theorem cells_agg {G : Nat → Nat → Prop} {W : World} {v : Value} {l : List AV} {t : TypeId} (ht : Tryz.prog.cellsOf t = 15) (hc : ClCells W G l v.cells.toList) (hl : v.cells.toList.length = Tryz.prog.cellsOf t) : RepC W G (.agg l) v := by
  have h15 : v.cells.size = 15 := by rw [← Array.length_toList, hl, ht]
  have hv : ∃ ws : List Value, v = .agg ws.toArray ∧ v.cells.toList = ws := by
    cases v <;> first | (simp [Value.cells] at h15; done) | exact ⟨_, by simp [Value.cells], rfl⟩
  obtain ⟨ws, rfl, hw⟩ := hv
  rw [hw] at hc
  exact .agg l ws hc.len.symm (fun i x hx => by
    obtain ⟨y, hy⟩ : ∃ y, ws[i]? = some y := by
      have := (List.getElem?_eq_some_iff.1 hx).1
      exact ⟨_, List.getElem?_eq_getElem (by rw [← hc.len]; exact this)⟩
    exact (hc.rep i x y hx hy).1) (fun i x y hx hy => (hc.rep i x y hx hy).2)

theorem lifted (os : Os) (started : os.Started) (H : Type) (enc : TypeId × Value → H) :
    ReturnsInHanded {} Tryz.checked os 3 .any (fun w args => (Rows.relationEqualSpec.pre enc Tryz.prog Tryz.f3 [] false w args ∧ laidMetH Tryz.prog Rows.relationEqualRow.laid w) ∧ sizedMet enc Tryz.prog Tryz.f3 (OpenSpec.ofChange Rows.relationEqualSpec) false w args)
      (Rows.relationEqualSpec.post enc Tryz.prog Tryz.f3 false true false false) := by
  refine returnsInHanded_of_change_and (C := Tryz.checked) (X := fun w _ => laidMetH Tryz.prog Rows.relationEqualRow.laid w) (fun _ _ _ hh h => h.of_heap hh) own started (by kernel_rfl) Tryz.func3
    (ChangeSpec.witness_shaped (enc := enc) (C := Tryz.checked) (os := os) (X := fun w _ => laidMetH Tryz.prog Rows.relationEqualRow.laid w) false (World.laidAll Tryz.prog os Rows.relationEqualRow.laid) #[zeroPlan, zeroPlan] 8 (World.laidAll_os _ _ _)
      (World.shaped_of_ZipB (by kernel_rfl) (by kernel_rfl)) (by kernel_rfl) (by kernel_rfl) (by kernel_rfl)
      (by rw [MakeChecks.laidMetH_plain _ _ _ (by kernel_rfl)]; exact laidMet_laidAll _ (by kernel_rfl) (by kernel_rfl))) ?_
  intro W base args ds gs before hval0 hW _ hz _ _
  have hW' := hW
  obtain ⟨p, q, hA0, hV, rfl, _, _⟩ := hW
  have hA : DataW.TrodAll enc Tryz.prog W 0 (fun _ => true) true Tryz.f3.params.toList args.toList ds p := hA0
  rw [Tryz.params3] at hA
  obtain ⟨v0, v1, d0, d1, p0, p1, rfl, rfl, rfl, h0, h1⟩ := trodAll_two hA
  obtain ⟨rfl, rfl⟩ := trodVars_none hV
  have hlt := hW'.lt
  have hw : ∀ (j : Nat) (d : DataW H), [d0, d1][j]? = some d → [31, 31][j]? = some 31 → (d.weights Tryz.prog 31).all (· ≤ reachBytes) = true := by
    intro j d hd ht
    rw [List.all_eq_true]
    intro n hn
    have hz' : (DataW.weightsEach Tryz.prog [31, 31] [d0, d1]).all (· ≤ reachBytes) = true := hz
    exact List.all_eq_true.1 hz' n (DataW.weights_mem_each ht hd n hn)
  obtain ⟨f0, k0⟩ := h0
  obtain ⟨f1, k1⟩ := h1
  let G : Nat → Nat → Prop := fun β _ => β < W.heap.size
  obtain ⟨l0, c0, t0, e0⟩ := trod_plain (G := G) plain f0 31 _ d0 p0 (by decide) k0 (hw 0 d0 rfl rfl) (fun β o hm => hlt (.cell β o) (by simp [hm]))
  obtain ⟨l1, c1, t1, e1⟩ := trod_plain (G := G) plain f1 31 _ d1 p1 (by decide) k1 (hw 1 d1 rfl rfl) (fun β o hm => hlt (.cell β o) (by simp [hm]))
  obtain ⟨a, rfl, wa⟩ := Rq.has_plan _ f0 (Nat.lt_succ_self _) t0
  obtain ⟨b, rfl, wb⟩ := Rq.has_plan _ f1 (Nat.lt_succ_self _) t1
  refine (law wa wb W v0 v1 G (fun β o h => h) (cells_agg (by kernel_rfl) c0 e0) (cells_agg (by kernel_rfl) c1 e1)).mono fun e W' ⟨he, hb⟩ => ?_
  subst he
  have r0 := Below.trod laidOut (by kernel_rfl) (of_decide_eq_true (by kernel_rfl)) ⟨f0, k0⟩ hb (fun x hx => hlt x (by simp [hx]))
  have r1 := Below.trod laidOut (by kernel_rfl) (of_decide_eq_true (by kernel_rfl)) ⟨f1, k1⟩ hb (fun x hx => hlt x (by simp [hx]))
  exact ⟨_, rfl, _, _, _, [], _, [], hW', trodAll_mk1 (shut_bool Tryz.underlying4 _), trodAll_mk2 r0 r1, rfl, hb.frame _, fun h => by cases h⟩

set_option maxHeartbeats 0 in
theorem joined : joinedFacts Tryz.pinned.checked.prog 3 Tryz.f3 Rows.relationEqualSpec Rows.relationEqualRow = true := by
  unfold joinedFacts
  repeat' (with_reducible refine Bool.and_eq_true_iff.mpr ⟨?_, ?_⟩)
  all_goals as_aux_lemma => kernel_rfl

theorem row_holds : Rows.RelationEqualSaid :=
  OpenClaim.holds_of_wide 3 Tryz.f3 rfl rfl rfl rfl rfl rfl rfl ⟨rfl, rfl, rfl, rfl, rfl⟩ rfl rfl rfl rfl rfl (by kernel_rfl) Tryz.func3 joined
    (of_decide_eq_true (by kernel_rfl)) (by unfold Func.isWrapper; first | (rw [if_pos (by decide +kernel)]; kernel_rfl) | (rw [if_neg (by decide +kernel)]; exact ⟨rfl, rfl⟩))
    (fun os started H enc _ => lifted os started H enc)

theorem relationEqual_holds : Rows.RelationEqualCardSaid :=
  Claim7.holds_tied_plain_at .later [] [.data, .pinned] true (true, "f9d07328b5c4ede58adf695389d8d8182d0e4626f74ab06b83428bf5f3c03469") false
    row_holds (fun _ h => by cases h) (by kernel_rfl) (fun _ h => by cases h) relationEqual_row_tie rfl ⟨rfl, rfl⟩ (by kernel_rfl) rfl
    (fun f fn hf hfn => by
      obtain rfl : f = 3 := Option.some.inj ((show Tryz.prog.funcNamed "lamina/laminalaw39.RelationEqual" = some 3 by kernel_rfl).symm.trans hf) |>.symm
      obtain rfl : fn = Tryz.f3 := (Option.some.inj (Tryz.func3.symm.trans hfn)).symm
      exact ⟨by kernel_rfl, fun j t ht => by
        rw [Tryz.params3] at ht
        have hm : t ∈ [31, 31] := by simpa using Array.mem_of_getElem? ht
        have hall : ([31, 31].all fun u => !Tryz.prog.wantsStandIn u) = true := by kernel_rfl
        exact (show Tryz.prog.wantsStandIn t = false by simpa using List.all_eq_true.1 hall t hm)⟩)
    (by kernel_rfl)
#print axioms relationEqual_holds

end Go.Proofs.YthiogecmahdmcaaGreatDoor
