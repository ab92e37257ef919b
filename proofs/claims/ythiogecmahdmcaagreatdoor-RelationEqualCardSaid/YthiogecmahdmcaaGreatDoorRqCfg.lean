/- The program of the seat RelationEqual: which functions are run, and that the example check answers true. -/
import Derived.Test.YthiogecmahdmcaaGreatDoorProg
import Derived.Test.YthiogecmahdmcaaGreatDoorRfxS9
import Derived.Test.YthiogecmahdmcaaGreatDoorRfxM
import Derived.KernelRfl
import Derived.Laws.Externs
import Derived.Lib.Bytealg
import Derived.Lib.Builder
import Derived.Lib.MakeNoZero
set_option linter.unusedVariables false
set_option linter.unusedSimpArgs false
namespace Go.Proofs.YthiogecmahdmcaaGreatDoor.Rq
open Go Go.Abs

def extK (f : FuncId) (xs : List AV) : Option AV :=
  if f = 279 then (match xs with
    | [.str a, .str b] => some (.int .i64 (Lib.compareBytes a.data.toList b.data.toList))
    | _ => none)
  else if f = 110 then (match xs with
    | [x] => some x
    | _ => none)
  else none

noncomputable def fnsK (f : FuncId) : Option Func := match Tryz.prog.funcs[f]? with
  | some fn => if fn.body.isSome then some fn else none
  | none => none

/-- Slots that are read again, by function and first region of a loop. -/
def liveT : List (Nat × Nat × List Nat) := [
  (4, 3, [1, 3, 4]), (7, 4, [2, 3, 5]), (13, 4, [0, 1, 5]), (15, 4, [0, 1, 12, 13]), (16, 4, [0, 1, 12, 13]), (17, 4, [0, 1, 12, 13]),
  (19, 4, [1, 2, 15, 16, 17]), (21, 4, [1, 2, 15, 16, 17]), (23, 4, [1, 2, 15, 16, 17]), (25, 4, [1, 2, 15, 16, 17]), (26, 4, [2, 3, 5]), (26, 9, [2, 3, 6]),
  (26, 14, [2, 3, 7]), (26, 19, [2, 3, 8]), (26, 24, [2, 3, 9]), (27, 4, [0, 1, 5]), (28, 4, [0, 1, 5]), (28, 9, [0, 1, 5, 6]),
  (30, 3, [3, 7, 8, 9]), (31, 2, [2, 3, 11, 12, 13]), (32, 2, [0, 1, 5]), (33, 3, [1, 3, 17, 18, 19]), (36, 12, [0, 1, 5, 39, 40, 41]), (36, 22, [1, 8, 63, 64, 65]),
  (37, 5, [1, 3, 29, 30, 31]), (37, 10, [1, 3, 42, 43, 44]), (37, 17, [1, 3, 66, 67, 68]), (37, 22, [1, 3, 79, 80, 81]), (37, 27, [1, 3, 98, 99, 100]), (37, 32, [1, 3, 119, 120, 121]),
  (39, 4, [1, 2, 15, 16, 17]), (42, 4, [0, 1, 12, 13]), (43, 2, [0, 1, 5]), (43, 7, [0, 1, 5, 6]), (44, 4, [2, 3, 5]), (45, 3, [0, 3, 4]),
  (46, 3, [5, 14, 15, 16]), (46, 17, [3, 5, 57, 58, 59]), (57, 38, [7, 8, 9]), (63, 8, [0, 3, 4, 5]), (64, 4, [1, 2, 15, 16, 17]), (67, 4, [0, 1, 5]),
  (68, 3, [2, 4, 21, 22, 23]), (68, 7, [2, 4, 9, 10, 21, 22, 23, 29, 30, 31]), (72, 3, [1, 5, 8, 9, 10]), (78, 2, [0, 1, 7, 8]), (82, 3, [1, 2, 5, 9, 10, 11]), (89, 6, [5, 6, 26, 27, 28]),
  (89, 18, [5, 58, 59, 60]), (89, 30, [5, 97, 98, 99]), (95, 4, [2, 5, 12, 13, 14]), (106, 3, [5, 18, 19]), (106, 7, [5, 6, 7, 18, 19, 22, 23, 24]), (108, 2, [1, 6, 7, 8]),
  (118, 10, [1, 2, 3, 27, 28, 29]), (123, 2, [0, 2, 3, 4, 6, 10, 11, 12]), (124, 3, [0, 3, 9, 10, 11]), (124, 11, [6, 25, 26, 27]), (125, 5, [2, 5, 23, 24, 25]), (125, 16, [2, 10, 58, 59, 60]),
  (125, 20, [2, 10, 12, 13, 58, 59, 60, 68, 69, 70]), (126, 3, [0, 1, 5, 15, 16, 17]), (126, 8, [1, 5, 28, 29, 30]), (126, 11, [1, 5, 28, 29, 30, 36, 37, 38]), (129, 2, [0, 1, 2, 6, 7, 8]), (129, 7, [0, 1, 2, 6]),
  (129, 9, [0, 1, 2, 6, 7, 8]), (134, 2, [0, 1, 7, 8]), (135, 2, [0, 1, 7, 8]), (136, 3, [3, 6, 7, 8]), (138, 4, [5, 6, 18, 19]), (138, 7, [5, 6, 7, 18, 19, 22, 23, 24]),
  (141, 2, [0, 1, 7, 8]), (142, 2, [0, 1, 7, 8]), (149, 2, [0, 1, 7, 8]), (152, 2, [0, 1, 7, 8]), (155, 3, [2, 5, 9, 10, 11]), (156, 3, [4, 7, 8, 9]),
  (157, 2, [0, 1, 7, 8]), (163, 3, [3, 6, 7, 8]), (164, 3, [3, 6, 7, 8]), (167, 6, [0, 1, 4, 5, 6]), (172, 3, [0, 2, 3, 7, 8, 9]), (173, 15, [4, 48, 49, 50]),
  (173, 25, [0, 1, 4, 9, 75, 76, 77]), (175, 2, [0, 1, 7, 8]), (177, 2, [0, 1, 5]), (179, 3, [2, 4, 5, 9, 10, 11]), (181, 4, [0, 1, 5]), (181, 9, [0, 1, 5, 6, 7]),
  (183, 1, [0, 1, 2, 3, 8]), (183, 4, [0, 1, 2, 3, 8, 9]), (184, 3, [0, 1, 4, 10, 11]), (184, 9, [0, 10, 13]), (184, 15, [0, 2, 4, 14, 15]), (184, 21, [0, 14, 17]),
  (184, 33, [0, 1, 2, 3, 4, 18, 19, 20, 21, 22]), (185, 2, [0, 1, 10, 11, 12]), (186, 2, [0, 1, 7, 8]), (187, 2, [0, 1, 7, 8]), (188, 3, [3, 7, 8, 9]), (189, 4, [1, 2, 19, 20, 21]),
  (190, 2, [0, 1, 7, 8]), (193, 1, [0, 6, 7, 8]), (199, 1, [0, 1]), (201, 10, [0, 35, 36, 37]), (212, 3, [1, 4, 5, 9, 10, 11]), (216, 6, [6, 7, 26, 27, 28]),
  (216, 15, [6, 7, 68, 69, 70]), (217, 4, [2, 5, 6, 11, 12, 13]), (218, 2, [0, 1, 5]), (219, 5, [1, 2, 3, 4, 5, 6, 12, 13, 24, 25, 26]), (219, 11, [1, 2, 3, 4, 5, 6, 12, 16]), (220, 2, [0, 2, 4, 10, 11]),
  (225, 1, [0, 6, 7, 8]), (228, 3, [0, 4, 5, 8, 9, 10]), (229, 3, [0, 1, 5, 6, 7, 8]), (235, 3, [1, 2, 3, 9, 14, 15, 16]), (239, 5, [0, 1, 5, 6]), (245, 10, [1, 2, 38, 39, 40]),
  (247, 3, [3, 7, 8, 9]), (250, 5, [4, 5, 21, 22, 23]), (251, 1, [0, 1, 3]), (251, 3, [0, 1, 3, 4]), (255, 1, [0, 1, 2, 3, 10]), (257, 5, [0, 4, 10, 11, 12]),
  (258, 12, [8, 9, 43, 44, 45]), (259, 13, [0, 1, 2, 10, 11, 52, 53]), (259, 21, [0, 2, 10, 11, 77, 78]), (262, 2, [0, 1, 7, 8]), (264, 2, [0, 1, 2, 3, 4, 10, 11]), (266, 3, [3, 7, 8, 9]),
  (273, 2, [0, 1, 2, 3, 4, 10, 11]), (275, 3, [4, 7, 8, 9]), (276, 6, [0, 1, 5]), (280, 1, [0, 1]), (281, 1, [0, 1]), (282, 2, [0, 2, 4]),
  (283, 1, [0, 1]), (284, 1, [0, 1]), (285, 1, [0, 1]), (286, 1, [0, 1]), (287, 1, [0, 1, 2, 3, 8]), (287, 4, [0, 1, 2, 3, 8, 9]),
  (288, 4, [0, 3, 8, 9, 10, 11]), (288, 8, [0, 3, 8, 9, 12]), (289, 5, [0, 1, 8, 9, 10, 11]), (291, 2, [0, 8, 9]), (292, 3, [0, 1, 2, 3, 9, 10]), (292, 5, [0, 1, 2, 3, 9, 10]),
  (292, 14, [0, 1, 2, 3, 9, 10, 11]), (292, 20, [0, 1, 2, 3, 9, 10, 12]), (293, 3, [0, 1, 4, 11, 12]), (293, 5, [0, 1, 4, 11, 12]), (294, 3, [0, 1, 4, 12, 13]), (294, 5, [0, 1, 4, 12, 13]),
  (294, 13, [0, 1, 4, 12, 13]), (294, 15, [0, 1, 4, 12, 13]), (300, 17, [2, 8, 9, 10, 11, 13, 14, 15, 16]), (300, 24, [2, 8, 9, 10, 14, 15, 16, 17, 18]), (301, 3, [0, 2, 4, 8, 9, 10]), (306, 1, [0, 1, 2, 3, 8]),
  (306, 4, [0, 1, 2, 3, 8, 9]), (307, 4, [0, 3, 8, 9, 10, 11]), (307, 8, [0, 3, 8, 9, 12]), (308, 5, [0, 1, 8, 9, 10, 11]), (310, 2, [0, 8, 9]), (311, 3, [0, 1, 2, 3, 9, 10]),
  (311, 5, [0, 1, 2, 3, 9, 10]), (311, 14, [0, 1, 2, 3, 9, 10, 11]), (311, 20, [0, 1, 2, 3, 9, 10, 12]), (312, 3, [0, 1, 4, 11, 12]), (312, 5, [0, 1, 4, 11, 12]), (313, 3, [0, 1, 4, 12, 13]),
  (313, 5, [0, 1, 4, 12, 13]), (313, 13, [0, 1, 4, 12, 13]), (313, 15, [0, 1, 4, 12, 13]), (314, 2, [2, 4]), (316, 15, [0, 1, 5, 6, 7, 8, 9, 10]), (320, 10, [0, 4, 5, 6]),
  (321, 1, [0, 2, 3, 4, 10]), (329, 1, [0, 2, 3, 4, 10]), (335, 5, [0, 1, 5, 6, 7, 8, 9]), (335, 11, [0, 1, 5, 6, 7, 8, 10]), (342, 3, [0, 4, 5]), (342, 8, [4, 6, 7, 8]),
  (345, 1, [0, 2, 3])]

def liveK (f : FuncId) (r : Nat) : List Tmp := ((liveT.find? fun e => e.1 == f && e.2.1 == r).map fun e => e.2.2).getD []

noncomputable def cfgK : Cfg :=
  { fns := fnsK, thr := fun f => [77, 76, 129, 183, 184, 220, 255].contains f, lit := fun _ => false, keep := fun _ => true, ext := extK, mnz := fun f => if f = 161 then some 5 else none, live := liveK }

theorem names : (Tryz.prog.funcs.all fun fn => fn.body.isNone || fn.name != "runtime.NumGoroutine") = true := by kernel_rfl
theorem mixed : Tryz.prog.follows .mixedOrders = true := by kernel_rfl

theorem cmp_run (args : Array Value) (W : World) : (callFunc 279 args).run Tryz.prog W = ((Extern.BytealgCompare.compare args).run Tryz.prog W).andThen fun v w' => .ok (.value v) w' :=
  run_callFunc_extern Tryz.func279 (by kernel_rfl) (by kernel_rfl) (by kernel_rfl) (by kernel_rfl) args W
theorem noEscape_run (args : Array Value) (W : World) : (callFunc 110 args).run Tryz.prog W = ((Extern.AbiNoEscape.same args).run Tryz.prog W).andThen fun v w' => .ok (.value v) w' :=
  run_callFunc_extern Tryz.func110 (by kernel_rfl) (by kernel_rfl) (by kernel_rfl) (by kernel_rfl) args W
theorem makeNoZero_run (args : Array Value) (W : World) : (callFunc 161 args).run Tryz.prog W = ((Extern.BytealgMakeNoZero.makeNoZero #[3] #[82] args).run Tryz.prog W).andThen fun v w' => .ok (.value v) w' :=
  run_callFunc_extern Tryz.func161 (by kernel_rfl) (by kernel_rfl) (by kernel_rfl) (by kernel_rfl) args W

theorem cfg_ok : CfgOk Tryz.prog cfgK := by
  refine ⟨fun f fn h => ?_, fun f xs v h _ _ Γ W args hr => ?_, fun f el h W n hn => ?_⟩
  · simp only [cfgK] at h
    unfold fnsK at h
    split at h
    · rename_i g hg
      split at h
      · rename_i hb
        injection h with h
        subst h
        refine ⟨hg, hb, fun e => ?_⟩
        have := Array.all_eq_true_iff_forall_mem.1 names g (Array.mem_of_getElem? hg)
        rw [e] at this
        cases hbb : g.body with
        | none => rw [hbb] at hb; cases hb
        | some c => rw [hbb] at this; simp at this
      · cases h
    · cases h
  · simp only [cfgK] at h
    unfold extK at h
    split at h
    · rename_i hf
      subst hf
      split at h
      · rename_i a b
        injection h with h
        subst h
        obtain ⟨hl, hrep⟩ := hr
        match args, hl with
        | [u, x], _ =>
          obtain rfl := rep_str (hrep 0 _ _ rfl rfl)
          obtain rfl := rep_str (hrep 1 _ _ rfl rfl)
          refine ⟨.int .i64 (Lib.compareBytes a.data.toList b.data.toList), ?_, .cl _ _ (.int _ _)⟩
          rw [cmp_run]
          have := Lib.run_compareString (P := Tryz.prog) a b W
          rw [show ([Value.string a, Value.string b] : List Value).toArray = #[.string a, .string b] from rfl, this]
          rfl
      · cases h
    · split at h
      · rename_i hf
        subst hf
        split at h
        · rename_i x
          injection h with h
          subst h
          obtain ⟨hl, hrep⟩ := hr
          match args, hl with
          | [u], _ =>
            refine ⟨u, ?_, hrep 0 _ _ rfl rfl⟩
            rw [noEscape_run]
            rfl
        · cases h
      · cases h
  · simp only [cfgK] at h
    split at h
    · rename_i hf
      subst hf
      injection h with h
      subst h
      obtain ⟨cs, h1, h2, _⟩ := Lib.run_makeNoZero (P := Tryz.prog) W #[3] 82 5 Tryz.underlying82 n (by omega)
      refine ⟨cs, ?_, h2⟩
      rw [makeNoZero_run, h1]
      rfl
    · cases h

def isTrue : Option RV → Bool
  | some (.one (.val (.bool b))) => b
  | _ => false

theorem isTrue_spec {r : Option RV} (h : isTrue r = true) : r = some (.one (.val (.bool true))) := by
  unfold isTrue at h
  split at h
  · subst h
    rfl
  · cases h

set_option maxRecDepth 100000 in
theorem awake_run : isTrue ((runA Tryz.prog cfgK 200 40).p 5 []) = true := by kernel_rfl

/-- The chapter's examples. -/
theorem awake_ev : Ev Tryz.prog cfgK 5 [] (.one (.val (.bool true))) := Ev.at (isTrue_spec awake_run)

end Go.Proofs.YthiogecmahdmcaaGreatDoor.Rq
