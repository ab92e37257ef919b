/- A region whose order is open. -/
import Derived.Test.YthiogecmahdmcaaGreatDoorRfxS6
set_option linter.unusedVariables false
set_option linter.unusedSimpArgs false
namespace Go.Abs
open Go.RowKit

def Ctx.bear (Γ : Ctx) (k : Nat) (q : Geo) : Ctx := { Γ with born := fun x => x = k ∨ Γ.born x, g := fun x => if x = k then some q else Γ.g x }

section
variable {P : Program} {Γ : Ctx} {W W' : World} {B : Nat} {h : Heap}

/-- A block that was laid ahead is born. -/
theorem HeapRel.wake (H : HeapRel Γ W B h) (hB : B ≤ W.heap.size) {k : Nat} {b : Blk} (hb : h[k]? = some b) (hd : b.dead = true) (hf : b.fr = true) {el : TypeId} {ex : Bool} {l : List AV} {c : Array Value} {fz : Nat × Nat}
    (hh : W'.heap = W.heap.push (.cells c el fz)) (hc : Cells Γ W l (c.toList.take l.length)) (hlen : l.length ≤ c.size) (hex : ex = true → c.size = l.length)
    (hfz : ∀ o, o < c.size → ¬(fz.1 ≤ o ∧ o < fz.2)) :
    HeapRel (Γ.bear k ⟨0, l.length, W.heap.size, 0, c.size⟩) W' B (h.set k ⟨0, false, el, ex, false, l⟩) ∧ Ext Γ W (Γ.bear k ⟨0, l.length, W.heap.size, 0, c.size⟩) W' := by
  have hkl : k < h.length := (List.getElem?_eq_some_iff.1 hb).1
  have hnb : ¬ Γ.born k := H.ub k b hb hd hf
  have e : Ext Γ W (Γ.bear k ⟨0, l.length, W.heap.size, 0, c.size⟩) W' := by
    refine ⟨rfl, fun b hb => .inr hb, fun b1 q' hb1 hq' => ?_, fun β o' hG => ⟨hG, cell?_of_heap ?_⟩, fun _ _ h => .inl h⟩
    · simp only [Ctx.bear] at hq'
      rw [if_neg (fun (he : b1 = k) => hnb (by rw [← he]; exact hb1))] at hq'
      exact ⟨q', hq', .inl rfl⟩
    · have := H.G β o' hG
      rw [hh, Array.getElem?_push, if_neg (by omega)]
  refine ⟨⟨H.eB, by simp [Ctx.bear, H.n], fun b1 hb1 => ?_, fun b1 k1 hk1 hd1 hf1 hb1 => ?_, fun b1 k1 hk1 hd1 => ?_, fun b1 q hq => ?_, fun b1 b2 q q' hq hq' hbl => ?_, fun β o hG => ?_⟩, e⟩
  · rw [List.length_set]
    rcases hb1 with rfl | hb1
    · exact hkl
    · exact H.bn b1 hb1
  · rw [List.getElem?_set] at hk1
    split at hk1
    · injection hk1 with hk1
      subst hk1
      cases hd1
    · rename_i hne
      rcases hb1 with rfl | hb1
      · exact hne rfl
      · exact H.ub b1 k1 hk1 hd1 hf1 hb1
  · rw [List.getElem?_set] at hk1
    split at hk1
    · rename_i hbe
      subst hbe
      · injection hk1 with hk1
        subst hk1
        refine ⟨⟨0, l.length, W.heap.size, 0, c.size⟩, by simp [Ctx.bear], ⟨rfl, rfl, hB, ⟨c, fz, by rw [hh]; simp, rfl, hfz, fun i x hx => ?_⟩, by simpa using hlen, fun he => ⟨rfl, hex he⟩, fun o _ hG => ?_⟩⟩
        · have hi : i < l.length := (List.getElem?_eq_some_iff.1 hx).1
          have hcl : i < c.size := by omega
          refine ⟨hc.one i x hx, c[i], by simp [hcl], ?_⟩
          exact (hc.rep i x c[i] hx (by rw [List.getElem?_take, if_pos hi]; simp [hcl])).ext e
        · have := H.G _ _ hG
          simp at this
    · rename_i hne
      obtain ⟨q, hq, ok⟩ := H.blk b1 k1 hk1 hd1
      refine ⟨q, by simp only [Ctx.bear]; rw [if_neg (fun e => hne e.symm)]; exact hq, ok.ext e ?_ (fun o ho => ho)⟩
      have := (H.lt hq).2
      rw [hh, Array.getElem?_push, if_neg (by omega)]
  · simp only [Ctx.bear] at hq
    split at hq
    · rename_i hbe
      subst hbe
      exact ⟨.inl rfl, _, by rw [List.getElem?_set, if_pos rfl, if_pos hkl], rfl⟩
    · rename_i hne
      obtain ⟨hbn, k1, hk1, hd1⟩ := H.back b1 q hq
      exact ⟨.inr hbn, k1, by rw [List.getElem?_set, if_neg (fun e => hne e.symm)]; exact hk1, hd1⟩
  · simp only [Ctx.bear] at hq hq'
    split at hq <;> split at hq'
    · omega
    · injection hq with hq
      subst hq
      have := (H.lt hq').2
      simp only at hbl
      omega
    · injection hq' with hq'
      subst hq'
      have := (H.lt hq).2
      simp only at hbl
      omega
    · exact H.inj b1 b2 q q' hq hq' hbl
  · have := H.G β o hG
    rw [hh]
    simp
    omega

theorem rep_bear_own {k : Nat} {q : Geo} {n sz cap : Nat} (hn : n ≤ cap) (h1 : q.len ≤ cap * sz) (h2 : q.base + cap * sz ≤ q.csz) (hv : q.ver = 0) :
    Rep (Γ.bear k q) W (.own k 0 0 n sz) (.slice (some ⟨q.blk, q.base, none⟩) n cap) := by
  refine .own _ _ _ _ _ _ _ (.inl rfl) hn (fun q' hq' => ?_)
  simp only [Ctx.bear, if_true] at hq'
  injection hq' with hq'
  subst hq'
  exact ⟨Nat.zero_le _, fun _ => ⟨rfl, by omega, by omega⟩⟩

theorem rep_bear_ptr {k : Nat} {q : Geo} (hv : q.ver = 0) : Rep (Γ.bear k q) W (.ptr k 0 0) (.pointer (some ⟨q.blk, q.base, none⟩)) := by
  refine .ptr _ _ _ _ (.inl rfl) (fun q' hq' => ?_)
  simp only [Ctx.bear, if_true] at hq'
  injection hq' with hq'
  subst hq'
  exact ⟨Nat.zero_le _, fun _ => rfl⟩

theorem wakeA_done {cfg : Cfg} {T : List AV} {a : Act} {o : Oper} {k : Nat} {v : AV} {h' : Heap} (ok : CfgOk P cfg) (R : ActRel Γ W T a) (H : HeapRel Γ W B h) (hB : B ≤ W.heap.size)
    (hw : wakeA P cfg ⟨T, h⟩ o.op k = some (v, h')) : Done P Γ W B a o h' v := by
  unfold wakeA at hw
  simp only at hw
  split at hw
  · rename_i b hb
    split at hw
    · rename_i hd
      split at hw
      · rename_i elem ho
        split at hw
        · rename_i z hz
          simp only [Option.some.injEq, Prod.mk.injEq] at hw
          obtain ⟨rfl, rfl⟩ := hw
          obtain ⟨zv, i, hi, hzv, hcells⟩ := zeroT_rep hz
          obtain ⟨ws, hws, hc, _⟩ := hcells Γ W
          have hl := hc.len
          obtain ⟨r1, r2⟩ := H.wake (W' := W.alloc (.cells ws.toArray elem)) (ex := true) (fz := (0, 0)) hB hb hd.1 hd.2 rfl hc.all (by simp [hl]) (fun _ => by simp [hl]) (fun o _ h => by simp at h)
          refine ⟨_, _, _, .inl ?_, r1, r2, below_push rfl (aside_alloc _) hB, rep_bear_ptr rfl⟩
          simp only [execOp, ho, Instr.alloc, Sem.run_bind, run_zeroA hi hzv, Result.andThen_ok, newVar, newRow, run_newObj, Sem.run_pure, hws]
          rfl
        · cases hw
      · rename_i f args ats ho
        split at hw
        · rename_i el n hm has
          split at hw
          · rename_i hn
            simp only [Option.some.injEq, Prod.mk.injEq] at hw
            obtain ⟨rfl, rfl⟩ := hw
            obtain ⟨e1, e2⟩ := mapO_evA R has
            have hargs : ∃ u, args.toList.map a.eval = [u] := by
              match hl : args.toList.map a.eval, e1 with
              | [u], _ => exact ⟨u, rfl⟩
            obtain ⟨u, hargs⟩ := hargs
            rw [hargs] at e2
            obtain rfl := rep_int (e2 0 _ _ rfl rfl)
            have harr : args.map a.eval = #[.int .i64 n] := by apply Array.ext'; rw [Array.toList_map]; exact hargs
            obtain ⟨cs, hrun, hcs⟩ := ok.mnz f el hm W n.toNat (by omega)
            rw [show ((n.toNat : Nat) : Int) = n from by omega] at hrun
            obtain ⟨r1, r2⟩ := H.wake (W' := W.drew.drew.alloc (.cells cs el)) (l := []) (ex := false) (fz := (0, 0)) hB hb hd.1 hd.2 rfl (by simpa using Cells.nil Γ W) (Nat.zero_le _) (fun h => by cases h) (fun o _ h => by simp at h)
            refine ⟨_, _, _, .inl ?_, r1, r2, below_push rfl ⟨rfl, rfl, rfl⟩ hB, rep_bear_own (q := ⟨0, 0, W.heap.size, 0, cs.size⟩) hcs (Nat.zero_le _) (by simp) rfl⟩
            simp only [execOp, ho, resolve, Act.eval, Deferred.ofValue, Sem.run_bind, Sem.run_pure, Result.andThen_ok, invoke]
            have hcat : (#[] ++ args.map a.eval ++ #[] : Array Value) = #[.int .i64 n] := by rw [harr]; rfl
            rw [hcat]
            exact hrun
          · cases hw
        · cases hw
      · cases hw
    · cases hw
  · cases hw

/-- One operation of such a region. -/
theorem ent_wp {cfg : Cfg} {orc : Orc} {Γ0 : Ctx} {W0 : World} {s : St} {a : Act} {ops : Array Oper} {i : Nat} {o : Oper} {ko : Option Nat} {c : Cls} {v : AV} {h' : Heap} {K : Act → World → Prop} {Q : Exit → Act → World → Prop}
    (ok : CfgOk P cfg) (so : SoundO P orc) (ho : ops[i]? = some o) (hs : coreD P cfg orc ops o ko s.T s.h = some (c, v, h')) (hi : Inv Γ0 W0 B s a W)
    (hk : ∀ a' W', Inv Γ0 W0 B ⟨putA s.T o.dst v, h'⟩ a' W' → K a' W') : wpOp P ops Q i K a W := by
  obtain ⟨Γ, H⟩ := hi
  unfold wpOp
  simp only [ho]
  unfold coreD at hs
  split at hs
  · rename_i k hw
    rw [want_rep H.act hw]
    simp only [if_true]
    split at hs
    · rename_i v1 h1 hwk
      simp only [Option.some.injEq, Prod.mk.injEq] at hs
      obtain ⟨-, rfl, rfl⟩ := hs
      exact .inl (done_wp (wakeA_done ok H.act H.heap H.size hwk) (fun v' W' Γ' p => hk _ _ ⟨Γ', H.post _ p⟩))
    · cases hs
  · rename_i hw
    rw [want_rep H.act hw]
    simp only [if_true]
    exact .inl (opA_wp (s := ⟨s.T, s.h⟩) ok so H.act H.heap H.size hs (fun v' W' Γ' p => hk _ _ ⟨Γ', H.post _ p⟩))
  · rename_i hw
    rw [want_rep H.act hw]
    simp only [Bool.false_eq_true, if_false]
    simp only [Option.some.injEq, Prod.mk.injEq] at hs
    obtain ⟨-, rfl, rfl⟩ := hs
    exact hk _ _ ⟨Γ, H.skip _⟩
  · cases hs

/-! ### What comes ahead of what -/
theorem fold_bits (f : Edge → Bool) (g : Edge → Nat) (x : Nat) : ∀ (l : List Edge) (m : Nat), (l.foldl (fun s e => if f e then s ||| 2 ^ e.on ||| g e else s) m).testBit x = true →
    m.testBit x = true ∨ ∃ e ∈ l, f e = true ∧ (x = e.on ∨ (g e).testBit x = true)
  | [], m, h => .inl h
  | e :: l, m, h => by
    simp only [List.foldl_cons] at h
    rcases fold_bits f g x l _ h with h1 | ⟨e', he', h1⟩
    · split at h1
      · rename_i hf
        simp only [Nat.testBit_or, Bool.or_eq_true, Nat.testBit_two_pow, decide_eq_true_eq] at h1
        rcases h1 with (h1 | h1) | h1
        · exact .inl h1
        · exact .inr ⟨e, by simp, hf, .inl h1.symm⟩
        · exact .inr ⟨e, by simp, hf, .inr h1⟩
      · exact .inl h1
    · exact .inr ⟨e', by simp [he'], h1⟩

theorem befA_acc : ∀ (l : List Oper) (acc : List Nat) (i : Nat), i < acc.length → (befA acc l).getD i 0 = acc.getD i 0
  | [], acc, i, h => rfl
  | o :: l, acc, i, h => by
    simp only [befA]
    rw [befA_acc l _ i (by simp; omega)]
    simp only [List.getD_eq_getElem?_getD]
    rw [List.getElem?_append_left h]

theorem befA_spec : ∀ (l : List Oper) (acc : List Nat) (j x : Nat), ((befA acc l).getD (acc.length + j) 0).testBit x = true → (j < l.length) →
    ∃ o, l[j]? = some o ∧ ∃ e ∈ o.after.toList, Region.binds .any e = true ∧ (x = e.on ∨ ((befA acc l).getD e.on 0).testBit x = true)
  | [], acc, j, x, h, hj => by simp at hj
  | o :: l, acc, j, x, h, hj => by
    simp only [befA] at h ⊢
    cases j with
    | zero =>
      rw [befA_acc l _ _ (by simp)] at h
      simp only [List.getD_eq_getElem?_getD, Nat.add_zero, List.getElem?_append_right (Nat.le_refl _), Nat.sub_self, List.getElem?_cons_zero, Option.getD_some] at h
      rcases fold_bits _ _ x _ _ h with h1 | ⟨e, he, hb, h1⟩
      · simp at h1
      · refine ⟨o, rfl, e, he, hb, ?_⟩
        rcases h1 with h1 | h1
        · exact .inl h1
        · right
          by_cases hon : e.on < acc.length
          · rw [befA_acc l _ _ (by simp; omega)]
            rw [List.getElem?_eq_getElem hon] at h1
            simp only [List.getD_eq_getElem?_getD]
            rw [List.getElem?_append_left hon, List.getElem?_eq_getElem hon]
            exact h1
          · rw [List.getElem?_eq_none (by omega)] at h1
            simp at h1
    | succ j =>
      have := befA_spec l (acc ++ [o.after.toList.foldl (fun s e => if Region.binds .any e then s ||| 2 ^ e.on ||| acc.getD e.on 0 else s) 0]) j x (by
        simp only [List.length_append, List.length_cons, List.length_nil]
        rw [show acc.length + (0 + 1) + j = acc.length + (j + 1) from by omega]
        exact h) (by simpa using hj)
      obtain ⟨o', ho', rest⟩ := this
      exact ⟨o', by simpa using ho', rest⟩

theorem pairs_spec {p : Nat → Nat → Bool} {n : Nat} (h : pairs p n = true) {i j : Nat} (hij : i < j) (hj : j < n) : p i j = true := by
  unfold pairs at h
  have := List.all_eq_true.1 h j (List.mem_range.2 hj)
  exact List.all_eq_true.1 this i (List.mem_range.2 hij)

structure RegOk (ops : Array Oper) (rem : List Ent) (listed : Array Bool) : Prop where
  size : listed.size = ops.size
  mem : ∀ j, listed.getD j true = false ↔ ∃ e ∈ rem, e.i = j
  sorted : rem.Pairwise fun e e' => e.i < e'.i
  op : ∀ e ∈ rem, ops[e.i]? = some e.o
  closed : ∀ j, listed.getD j false = true → ∀ x, ((befA [] ops.toList).getD j 0).testBit x = true → listed.getD x false = true
  pair : ∀ e ∈ rem, ∀ e' ∈ rem, e.i < e'.i → Free ops e e' ∨ ((befA [] ops.toList).getD e'.i 0).testBit e.i = true
  back : ∀ (j : Nat) (o : Oper), ops[j]? = some o → ∀ e ∈ o.after, Region.binds .any e = true → e.on < j

theorem listed_of {listed : Array Bool} {j : Nat} (hj : j < listed.size) (h : ¬ listed.getD j true = false) : listed.getD j false = true := by
  simp only [Array.getD_eq_getD_getElem?, Array.getElem?_eq_getElem hj, Option.getD_some] at h ⊢
  simpa using h

theorem not_listed {listed : Array Bool} {j : Nat} (h : listed.getD j false = true) : ¬ listed.getD j true = false := by
  simp only [Array.getD_eq_getD_getElem?] at h ⊢
  cases hl : listed[j]? with
  | none => rw [hl] at h; cases h
  | some b =>
    rw [hl] at h
    simp at h ⊢
    exact h

theorem any_wp {cfg : Cfg} {orc : Orc} {Γ0 : Ctx} {W0 : World} {ops : Array Oper} {Q : Exit → Act → World → Prop} {s' : St} (ok : CfgOk P cfg) (so : SoundO P orc) (hq : ∀ a' W', Inv Γ0 W0 B s' a' W' → Q .normal a' W') :
    ∀ (n : Nat) (rem : List Ent) (listed : Array Bool) (s : St) (a : Act) (W : World), rem.length = n → RegOk ops rem listed → Run P cfg orc ops rem s s' → Inv Γ0 W0 B s a W → wpAny P .any ops Q n listed a W := by
  have hend : ∀ (rem : List Ent) (listed : Array Bool), RegOk ops rem listed → Region.ready .any ops listed = [] → rem = [] := by
    intro rem listed ro hr
    cases rem with
    | nil => rfl
    | cons e r =>
      exfalso
      have hin : e.i ∈ Region.ready .any ops listed := by
        rw [mem_ready]
        refine ⟨(ro.mem e.i).2 ⟨e, by simp, rfl⟩, e.o, ro.op e (by simp), fun ed hed hb => ?_⟩
        have hlt := ro.back e.i e.o (ro.op e (by simp)) ed hed hb
        have hsz : e.i < ops.size := (Array.getElem?_eq_some_iff.1 (ro.op e (by simp))).1
        refine listed_of (by rw [ro.size]; omega) (fun h => ?_)
        obtain ⟨e', he', hi⟩ := (ro.mem ed.on).1 h
        rcases List.mem_cons.1 he' with rfl | he'
        · omega
        · have := (List.pairwise_cons.1 ro.sorted).1 e' he'
          omega
      rw [hr] at hin
      cases hin
  intro n
  induction n with
  | zero =>
    intro rem listed s a W hn ro hr hi
    obtain rfl : rem = [] := List.eq_nil_of_length_eq_zero hn
    cases hr
    refine ⟨?_, hq _ _ hi⟩
    cases hrd : Region.ready .any ops listed with
    | nil => rfl
    | cons j l =>
      exfalso
      have hj : j ∈ Region.ready .any ops listed := by rw [hrd]; simp
      obtain ⟨h0, _⟩ := mem_ready.1 hj
      obtain ⟨e, he, _⟩ := (ro.mem j).1 h0
      cases he
  | succ n ih =>
    intro rem listed s a W hn ro hr hi
    refine ⟨fun h => ?_, fun i hrd => ?_⟩
    · have := hend rem listed ro h
      subst this
      cases hn
    · obtain ⟨h0, o, ho, hed⟩ := mem_ready.1 hrd
      obtain ⟨e, he, hei⟩ := (ro.mem i).1 h0
      subst hei
      obtain ⟨l1, l2, rfl⟩ := List.append_of_mem he
      have hsz : e.i < ops.size := (Array.getElem?_eq_some_iff.1 ho).1
      have hbef : ∀ x, ((befA [] ops.toList).getD e.i 0).testBit x = true → listed.getD x false = true := by
        intro x hx
        obtain ⟨o', ho', ed, hm, hb, h1⟩ := befA_spec ops.toList [] e.i x (by simpa using hx) (by simpa using hsz)
        rw [Array.getElem?_toList, ho] at ho'
        injection ho' with ho'
        subst ho'
        have hl := hed ed (by simpa using hm) hb
        rcases h1 with h1 | h1
        · rw [h1]
          exact hl
        · exact ro.closed ed.on hl x h1
      have hsort := List.pairwise_append.1 ro.sorted
      have hfree : ∀ x ∈ l1, Free ops x e := by
        intro x hx
        have hlt := hsort.2.2 x hx e (by simp)
        rcases ro.pair x (by simp [hx]) e he hlt with h1 | h1
        · exact h1
        · exact absurd ((ro.mem x.i).2 ⟨x, by simp [hx], rfl⟩) (not_listed (hbef x.i h1))
      obtain ⟨v, h', hcore, hrun⟩ := hr.pull l1 s hfree
      have hoe : ops[e.i]? = some e.o := ro.op e he
      refine ent_wp ok so hoe hcore hi (fun a' W' hi' => ?_)
      have hsub : ∀ x ∈ l1 ++ l2, x ∈ l1 ++ e :: l2 := by
        intro x hx
        rcases List.mem_append.1 hx with hx | hx
        · simp [hx]
        · simp [hx]
      have hne : ∀ x ∈ l1 ++ l2, x.i ≠ e.i := by
        intro x hx
        rcases List.mem_append.1 hx with hx | hx
        · have := hsort.2.2 x hx e (by simp)
          omega
        · have := (List.pairwise_cons.1 hsort.2.1).1 x hx
          omega
      refine ih (l1 ++ l2) _ _ a' W' (by simp at hn ⊢; omega) ⟨by simp [ro.size], fun j => ?_, ?_, fun x hx => ro.op x (hsub x hx), fun j hj x hx => ?_, fun x hx y hy => ro.pair x (hsub x hx) y (hsub y hy), ro.back⟩ hrun hi'
      · by_cases hj : e.i = j
        · subst hj
          constructor
          · intro h
            simp [Array.getD_eq_getD_getElem?, Array.getElem?_setIfInBounds, ro.size, hsz] at h
          · rintro ⟨x, hx, hxi⟩
            exact absurd hxi (hne x hx)
        · rw [getD_set_ne true hj, ro.mem j]
          constructor
          · rintro ⟨x, hx, rfl⟩
            refine ⟨x, ?_, rfl⟩
            rcases List.mem_append.1 hx with hx | hx
            · simp [hx]
            · rcases List.mem_cons.1 hx with rfl | hx
              · exact absurd rfl hj
              · simp [hx]
          · rintro ⟨x, hx, rfl⟩
            exact ⟨x, hsub x hx, rfl⟩
      · exact List.pairwise_append.2 ⟨hsort.1, (List.pairwise_cons.1 hsort.2.1).2, fun x hx y hy => hsort.2.2 x hx y (by simp [hy])⟩
      · apply getD_set_true
        by_cases hje : e.i = j
        · subst hje
          exact hbef x hx
        · rw [getD_set_ne false hje] at hj
          exact ro.closed j hj x hx

end
end Go.Abs
