/- Calls: what is taken of the functions that are called; a call from there. -/
import Derived.Test.YthiogecmahdmcaaGreatDoorRfxS2
import Derived.Test.YthiogecmahdmcaaGreatDoorRfxG
import Derived.Calls
set_option linter.unusedVariables false
set_option linter.unusedSimpArgs false
namespace Go.Abs
open Go.RowKit

section
variable {P : Program} {Γ : Ctx} {W W' : World} {B : Nat} {h : Heap}

def Reps (Γ : Ctx) (W : World) (as : List AV) (args : List Value) : Prop :=
  args.length = as.length ∧ ∀ (i : Nat) x y, as[i]? = some x → args[i]? = some y → Rep Γ W x y

/-- A call on values alone. -/
def SoundP (P : Program) (f : FuncId) (as : List AV) (rv : RV) : Prop :=
  ∀ (W : World) (G : Nat → Nat → Prop) (args : List Value), (∀ β o, G β o → β < W.heap.size) → args.length = as.length →
    (∀ (i : Nat) x y, as[i]? = some x → args[i]? = some y → RepC W G x y) →
    Calls P f args.toArray W fun e W' => ∃ v G', e = .returned v ∧ Below W.heap.size W W' ∧ (∀ β o, G β o → G' β o) ∧
      (∀ β o, G' β o → G β o ∨ (W.heap.size ≤ β ∧ β < W'.heap.size)) ∧ RepRV W' G' W.heap.size rv v

/-- A call that may turn the caller's blocks. -/
def SoundT (P : Program) (f : FuncId) (as : List AV) (h : Heap) (r : AV) (h' : Heap) : Prop :=
  ∀ (W : World) (Γ : Ctx) (B : Nat) (args : List Value), HeapRel Γ W B h → B ≤ W.heap.size → Reps Γ W as args →
    Calls P f args.toArray W fun e W' => ∃ v Γ', e = .returned v ∧ Post Γ W B h' r v Γ' W'

structure SoundO (P : Program) (orc : Orc) : Prop where
  p : ∀ f as rv, orc.p f as = some rv → rv.single = true ∧ SoundP P f as rv
  t : ∀ f as h r h', orc.t f as h = some (r, h') → SoundT P f as h r h'

structure CfgOk (P : Program) (cfg : Cfg) : Prop where
  fns : ∀ f fn, cfg.fns f = some fn → P.funcs[f]? = some fn ∧ fn.body.isSome = true ∧ fn.name ≠ "runtime.NumGoroutine"
  ext : ∀ f as v, cfg.ext f as = some v → cfg.fns f = none → cfg.mnz f = none → ∀ (Γ : Ctx) (W : World) (args : List Value), Reps Γ W as args →
    ∃ v', (callFunc f args.toArray).run P W = .ok (.value v') W ∧ Rep Γ W v v'
  mnz : ∀ f el, cfg.mnz f = some el → ∀ (W : World) (n : Nat), n ≤ 140737488355328 →
    ∃ cs : Array Value, (callFunc f #[.int .i64 n]).run P W = .ok (.value (.slice (some ⟨W.heap.size, 0, none⟩) n cs.size)) (W.drew.drew.alloc (.cells cs el)) ∧ n ≤ cs.size

theorem run_enter {f : FuncId} {fn : Func} (hf : P.funcs[f]? = some fn) (hb : fn.body.isSome = true) (hn : fn.name ≠ "runtime.NumGoroutine") (args : Array Value) :
    (callFunc f args).run P W = .ok (.enter f args) W := by
  have h2 : fn.body ≠ none := by
    intro h
    rw [h] at hb
    cases hb
  simp [callFunc, hf, hn, h2]

/-! ### The collector -/
def gcCtx (Γ : Ctx) (n m : Nat) : Ctx := ⟨Γ.B, m, fun b => Γ.born b ∧ b < n, fun b => if b < n then Γ.g b else none, Γ.G⟩

theorem refs_rep {n m : Nat} {x : AV} {v : Value} (hr : Rep Γ W x v) (hx : refsLt n x = true) : Rep (gcCtx Γ n m) W x v := by
  have own : ∀ {b ver off k sz : Nat} {v : Value}, b < n → Rep Γ W (.own b ver off k sz) v → Rep (gcCtx Γ n m) W (.own b ver off k sz) v := by
    intro b ver off k sz v hb hr
    obtain ⟨a, cap, rfl, h1, h2, h3⟩ := rep_own hr
    refine .own _ _ _ _ _ _ _ ⟨h1, hb⟩ h2 (fun q hq => h3 q ?_)
    simpa [gcCtx, hb] using hq
  have ptr : ∀ {b ver off : Nat} {v : Value}, b < n → Rep Γ W (.ptr b ver off) v → Rep (gcCtx Γ n m) W (.ptr b ver off) v := by
    intro b ver off v hb hr
    obtain ⟨a, rfl, h1, h3⟩ := rep_ptr hr
    refine .ptr _ _ _ _ ⟨h1, hb⟩ (fun q hq => h3 q ?_)
    simpa [gcCtx, hb] using hq
  have c1r : ∀ {x : AV} {v : Value}, c1 x = true → Rep Γ W x v → Rep (gcCtx Γ n m) W x v := fun hc hr => .cl _ _ (hr.toC1 hc)
  cases x with
  | own b ver off k sz => exact own (by simpa [refsLt] using hx) hr
  | ptr b ver off => exact ptr (by simpa [refsLt] using hx) hr
  | agg l => simp [refsLt] at hx
  | tup l => simp [refsLt] at hx
  | fn f l =>
    obtain ⟨ws, rfl, h1, h2⟩ := rep_fn hr
    refine .fn _ _ _ h1 (fun i y w hy hw => ?_)
    have hall := List.all_eq_true.1 (by simpa only [refsLt] using hx) y (List.mem_of_getElem? hy)
    have hy2 := h2 i y w hy hw
    cases y with
    | own b ver off k sz => exact own (by simpa using hall) hy2
    | ptr b ver off => exact ptr (by simpa using hall) hy2
    | any => exact absurd hall (fun h => by cases h)
    | _ => exact c1r hall hy2
  | any => exact .any _
  | _ => exact c1r rfl hr

theorem s1_c1 {x : AV} (h : s1 x = true) : c1 x = true := by cases x <;> simp_all [s1, c1]

theorem s1_rep {Γ' : Ctx} {x : AV} {v : Value} (h : s1 x = true) (hr : Rep Γ W x v) : Rep Γ' W' x v := by
  have := hr.toC1 (s1_c1 h)
  cases this <;> first | (cases h; done) | exact .cl _ _ (by constructor)

theorem scalar_agg {Γ' : Ctx} {l : List AV} {v : Value} (h : l.all s1 = true) (hr : Rep Γ W (.agg l) v) : Rep Γ' W' (.agg l) v := by
  obtain ⟨ws, rfl, h1, h2, h3⟩ := rep_agg hr
  exact .agg _ _ h1 h2 (fun i x y hx hy => s1_rep (List.all_eq_true.1 h x (List.mem_of_getElem? hx)) (h3 i x y hx hy))

theorem scalar_rep {Γ' : Ctx} {x : AV} {v : Value} (h : scalar x = true) (hr : Rep Γ W x v) : Rep Γ' W' x v := by
  cases x with
  | agg l => exact scalar_agg (by simpa [scalar] using h) hr
  | tup l =>
    obtain ⟨ws, rfl, h1, h3⟩ := rep_tup hr
    refine .tup _ _ h1 (fun i x y hx hy => ?_)
    have hs := List.all_eq_true.1 (by simpa only [scalar] using h) x (List.mem_of_getElem? hx)
    cases x with
    | agg l => exact scalar_agg hs (h3 i _ y hx hy)
    | _ => exact s1_rep hs (h3 i _ y hx hy)
  | _ => exact s1_rep h hr

theorem HeapRel.cut (H1 : HeapRel Γ W B h) {n : Nat} (hall : (h.take n).all (fun k => k.cells.all (refsLt n)) = true) : HeapRel (gcCtx Γ n (h.take n).length) W B (h.take n) := by
  have hget : ∀ (b : Nat) (k : Blk), (h.take n)[b]? = some k → b < n ∧ h[b]? = some k := by
    intro b k hk
    rw [List.getElem?_take] at hk
    split at hk
    · rename_i hb
      exact ⟨hb, hk⟩
    · cases hk
  refine ⟨H1.eB, rfl, fun b hb => ?_, fun b k hk hd hf hb => ?_, fun b k hk hd => ?_, fun b q hq => ?_, fun b b' q q' hq hq' hbl => ?_, H1.G⟩
  · have := H1.bn b hb.1
    simp only [List.length_take]
    have := hb.2
    omega
  · exact H1.ub b k (hget b k hk).2 hd hf hb.1
  · obtain ⟨hb, hk1⟩ := hget b k hk
    obtain ⟨q, hq, ok⟩ := H1.blk b k hk1 hd
    obtain ⟨c, fz, e1, e2, e3, e4⟩ := ok.ex
    refine ⟨q, by simp [gcCtx, hb, hq], ok.ver, ok.len, ok.lo, ⟨c, fz, e1, e2, e3, fun i x hx => ?_⟩, ok.room, ok.tight, ok.free⟩
    obtain ⟨a1, u, a2, a3⟩ := e4 i x hx
    refine ⟨a1, u, a2, refs_rep a3 ?_⟩
    exact List.all_eq_true.1 (List.all_eq_true.1 hall k (List.mem_of_getElem? hk)) x (List.mem_of_getElem? hx)
  · simp only [gcCtx] at hq
    split at hq
    · rename_i hb
      obtain ⟨hbn, k, hk, hd⟩ := H1.back b q hq
      exact ⟨⟨hbn, hb⟩, k, by rw [List.getElem?_take, if_pos hb]; exact hk, hd⟩
    · cases hq
  · simp only [gcCtx] at hq hq'
    split at hq
    · split at hq'
      · exact H1.inj b b' q q' hq hq' hbl
      · cases hq'
    · cases hq

theorem Ext.cut {Γ' : Ctx} (e : Ext Γ W Γ' W') {n m : Nat} (hn : ∀ b, Γ.born b → b < n) : Ext Γ W (gcCtx Γ' n m) W' := by
  refine ⟨e.B, fun b hb => ⟨e.n b hb, hn b hb⟩, fun b q hb hq => ?_, e.G, e.lo⟩
  simp only [gcCtx] at hq
  split at hq
  · exact e.g b q hb hq
  · cases hq

theorem gc_post (H : HeapRel Γ W B h) {h1 : Heap} {r : AV} {v : Value} {Γ' : Ctx} (p : Post Γ W B h1 r v Γ' W') : ∃ Γ'', Post Γ W B (gcT h r h1).2 (gcT h r h1).1 v Γ'' W' := by
  unfold gcT
  rcases gcA_cases h.length ⟨[r], h1⟩ with e | ⟨ids, T, k1, k2, e, hT, hh1, hh2, hd, hge, hmh⟩
  · rw [e]
    exact ⟨Γ', p⟩
  · rw [e]
    obtain ⟨g1, g2⟩ := mapO_back hT
    match T, g1, g2 with
    | [r'], _, g2 =>
      obtain ⟨x, hx, hx2⟩ := g2 0 r' rfl
      simp at hx
      subst hx
      exact ⟨_, ⟨ren_heap p.rel hh1 hh2 hd hge hmh, ren_ext p.ext H.bn, p.bel, renV_rep p.rel hx2 p.rep⟩⟩

/-! ### One call -/
/-- What running a call must come to. -/
def CallDone (P : Program) (Γ : Ctx) (W : World) (B : Nat) (f : FuncId) (args : Array Value) (h' : Heap) (v : AV) : Prop :=
  (∃ v' W' Γ', (callFunc f args).run P W = .ok (.value v') W' ∧ Post Γ W B h' v v' Γ' W') ∨
  ((callFunc f args).run P W = .ok (.enter f args) W ∧ Calls P f args W fun e W' => ∃ v' Γ', e = .returned v' ∧ Post Γ W B h' v v' Γ' W')

theorem p_post {cfg : Cfg} {draw : Bool} {f : FuncId} {as : List AV} {args : List Value} {rv : RV} (H : HeapRel Γ W B h) (hB : B ≤ W.heap.size) (hs : rv.single = true) (hp : SoundP P f as rv)
    (hl : args.length = as.length) (hr : ∀ (i : Nat) x y, as[i]? = some x → args[i]? = some y → RepC W Γ.G x y) :
    Calls P f args.toArray W fun e W' => ∃ v' Γ', e = .returned v' ∧ Post Γ W B (callR cfg draw f rv h).2.2 (callR cfg draw f rv h).2.1 v' Γ' W' := by
  refine Calls.mono (hp W Γ.G args H.G hl hr) ?_
  rintro e W' ⟨v, G', he, hbel, hG1, hG2, hrv⟩
  have hlo : ∀ β o, G' β o → Γ.G β o ∨ Γ.B ≤ β := fun β o hG => (hG2 β o hG).imp id (fun h => by have := H.eB; omega)
  have H1 : HeapRel (Γ.guard G') W' B h := H.more hB hG1 hG2 hbel.block hbel.size
  have e1 : Ext Γ W (Γ.guard G') W' := ext_more H hG1 hlo hbel.block
  unfold callR
  split
  · obtain ⟨Γ', r1, r2, r3⟩ := rv_place (Γ := Γ.guard G') H1 hB (fun b q hq => (H.lt hq).2) hs hrv
    exact ⟨v, Γ', he, ⟨r1, e1.trans r2, hbel.mono hB, r3⟩⟩
  · have hG2' : ∀ β o, newG G' W.heap.size W'.heap.size β o → Γ.G β o ∨ (W.heap.size ≤ β ∧ β < W'.heap.size) := by
      rintro β o (h | h)
      · exact hG2 β o h
      · exact .inr h
    refine ⟨v, Γ.guard (newG G' W.heap.size W'.heap.size), he, ⟨H.more hB (fun β o h => .inl (hG1 β o h)) hG2' hbel.block hbel.size, ext_more H (fun β o h => .inl (hG1 β o h)) (fun β o hG => (hG2' β o hG).imp id (fun h => by have := H.eB; omega)) hbel.block, hbel.mono hB, ?_⟩⟩
    exact rv_imm (Γ := Γ.guard G') hrv

theorem callR_draw (cfg : Cfg) (f : FuncId) (rv : RV) (h : Heap) : callR cfg true f rv h = (.P, rv.imm, h) := by simp [callR]

/-- A result without any reference: the caller's blocks are as they were. -/
theorem scalar_post {f : FuncId} {as : List AV} {args : List Value} {rv : RV} {G : Nat → Nat → Prop} (H : HeapRel Γ W B h) (hB : B ≤ W.heap.size) (hp : SoundP P f as rv) (hsc : scalar rv.imm = true)
    (hG : ∀ β o, G β o → β < W.heap.size) (hl : args.length = as.length) (hr : ∀ (i : Nat) x y, as[i]? = some x → args[i]? = some y → RepC W G x y) :
    Calls P f args.toArray W fun e W' => ∃ v' Γ', e = .returned v' ∧ Post Γ W B h rv.imm v' Γ' W' := by
  refine Calls.mono (hp W G args hG hl hr) ?_
  rintro e W' ⟨v, G', he, hbel, hG1, hG2, hrv⟩
  refine ⟨v, Γ.guard Γ.G, he, ⟨H.more hB (fun β o h => h) (fun β o h => .inl h) hbel.block hbel.size, ext_more H (fun β o h => h) (fun β o h => .inl h) hbel.block, hbel.mono hB, ?_⟩⟩
  exact scalar_rep hsc (rv_imm (Γ := Γ.guard G') hrv)

theorem callA_done {cfg : Cfg} {orc : Orc} {draw : Bool} {f : FuncId} {caps as0 : List AV} {args ws : List Value} {c : Cls} {v : AV} {h' : Heap} (ok : CfgOk P cfg) (so : SoundO P orc)
    (H : HeapRel Γ W B h) (hB : B ≤ W.heap.size) (hc : callA cfg orc draw (.fn f caps) as0 h = some (c, v, h')) (hr : Reps Γ W (as0 ++ caps) args) : CallDone P Γ W B f args.toArray h' v := by
  simp only [callA] at hc
  generalize as0 ++ caps = as at hc hr
  have thr : ∀ {r : AV} {h1 : Heap} {fn : Func}, cfg.fns f = some fn → orc.t f as h = some (r, h1) → CallDone P Γ W B f args.toArray (gcT h r h1).2 (gcT h r h1).1 := by
    intro r h1 fn hfn ht
    obtain ⟨f1, f2, f3⟩ := ok.fns f fn hfn
    refine .inr ⟨run_enter f1 f2 f3 _, Calls.mono (so.t f as h r h1 ht W Γ B args H hB hr) ?_⟩
    rintro e W' ⟨v, Γ', he, p⟩
    obtain ⟨Γ'', p'⟩ := gc_post H p
    exact ⟨v, Γ'', he, p'⟩
  split at hc
  · rename_i hfn
    split at hc
    · rename_i el hm
      split at hc
      · rename_i n
        split at hc
        · rename_i hn
          simp only [Option.some.injEq, Prod.mk.injEq] at hc
          obtain ⟨-, rfl, rfl⟩ := hc
          obtain ⟨hl, hrep⟩ := hr
          match args, hl with
          | [u], _ =>
            obtain rfl := rep_int (hrep 0 _ _ rfl rfl)
            obtain ⟨cs, hrun, hcs⟩ := ok.mnz f el hm W n.toNat (by omega)
            rw [show ((n.toNat : Nat) : Int) = n from by omega] at hrun
            refine .inl ⟨_, _, Γ.new ⟨0, 0, W.heap.size, 0, cs.size⟩, hrun, ⟨H.push hB (W' := W.drew.drew.alloc _) (l := []) rfl (by simpa using Cells.nil Γ W) (Nat.zero_le _) (fun h => by cases h) (fun o _ h => by simp at h), ext_push H rfl, below_push rfl ⟨rfl, rfl, rfl⟩ hB, ?_⟩⟩
            rw [← H.n]
            exact rep_new_own (q := ⟨0, 0, W.heap.size, 0, cs.size⟩) hcs (Nat.zero_le _) (by simp) rfl
        · cases hc
      · cases hc
    · rename_i hm
      split at hc
      · rename_i v1 hx
        simp only [Option.some.injEq, Prod.mk.injEq] at hc
        obtain ⟨-, rfl, rfl⟩ := hc
        obtain ⟨v', hrun, hrep⟩ := ok.ext f as v1 hx hfn hm Γ W args hr
        exact .inl ⟨v', W, Γ, hrun, ⟨H, Ext.refl _ _, Below.refl _ _, hrep⟩⟩
      · cases hc
  · rename_i fn hfn
    obtain ⟨f1, f2, f3⟩ := ok.fns f fn hfn
    split at hc
    · split at hc
      · rename_i r h1 ht
        simp only [Option.some.injEq, Prod.mk.injEq] at hc
        obtain ⟨-, hc⟩ := hc
        have := thr hfn ht
        rw [hc] at this
        exact this
      · cases hc
    · split at hc
      · rename_i hcl
        split at hc
        · rename_i rv hp
          injection hc with hc
          obtain ⟨hs, hsp⟩ := so.p f as rv hp
          have := p_post (cfg := cfg) (draw := draw) H hB hs hsp hr.1 (fun i x y hx hy => (hr.2 i x y hx hy).toC (List.all_eq_true.1 hcl x (List.mem_of_getElem? hx)))
          rw [hc] at this
          exact .inr ⟨run_enter f1 f2 f3 _, this⟩
        · cases hc
      · split at hc
        · rename_i as' hsn
          split at hc
          · rename_i rv hp
            obtain ⟨hs, hsp⟩ := so.p f as' rv hp
            obtain ⟨hsl, hsg⟩ := mapO_spec hsn
            obtain ⟨Hf, ef⟩ := H.freeze (as.flatMap (touch h depthA))
            have hrc : ∀ (i : Nat) x y, as'[i]? = some x → args[i]? = some y → RepC W (frozenG Γ (as.flatMap (touch h depthA))) x y := by
              intro i x' y hx' hy
              obtain ⟨x, hx, hsnap⟩ := mapO_get hsn hx'
              exact snap_rep H (fun β o hG => .inl hG) _ hsnap (hr.2 i x y hx hy) (fun b q _ hb hq β o hh => .inr ⟨b, q, List.mem_flatMap.2 ⟨x, List.mem_of_getElem? hx, hb⟩, hq, hh⟩)
            have hlen : args.length = as'.length := by rw [hr.1, hsl]
            split at hc
            · rename_i hsc
              simp only [Option.some.injEq, Prod.mk.injEq] at hc
              obtain ⟨-, rfl, rfl⟩ := hc
              exact .inr ⟨run_enter f1 f2 f3 _, scalar_post H hB hsp hsc Hf.G hlen hrc⟩
            · split at hc
              · rename_i hdraw
                simp only [Option.some.injEq, Prod.mk.injEq] at hc
                obtain ⟨-, rfl, rfl⟩ := hc
                refine .inr ⟨run_enter f1 f2 f3 _, Calls.mono (p_post (cfg := cfg) (draw := true) Hf hB hs hsp hlen hrc) ?_⟩
                rintro e W' ⟨v', Γ', he, p⟩
                rw [callR_draw] at p
                exact ⟨v', Γ', he, ⟨p.rel, ef.trans p.ext, p.bel, p.rep⟩⟩
              · simp only [Option.some.injEq, Prod.mk.injEq] at hc
                obtain ⟨-, rfl, rfl⟩ := hc
                refine .inr ⟨run_enter f1 f2 f3 _, Calls.mono (p_post (cfg := cfg) (draw := draw) Hf hB hs hsp hlen hrc) ?_⟩
                rintro e W' ⟨v', Γ', he, p⟩
                exact ⟨v', Γ', he, ⟨p.rel, ef.trans p.ext, p.bel, p.rep⟩⟩
          · cases hc
        · split at hc
          · rename_i r h1 ht
            simp only [Option.some.injEq, Prod.mk.injEq] at hc
            obtain ⟨-, hc⟩ := hc
            have := thr hfn ht
            rw [hc] at this
            exact this
          · cases hc

end
end Go.Abs
