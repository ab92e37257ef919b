/- Operations that turn the heap: copy, unsafe.String; and all of them together. -/
import Derived.Test.YthiogecmahdmcaaGreatDoorRfxL5
set_option linter.unusedVariables false
set_option linter.unusedSimpArgs false
namespace Go.Abs
open Go.RowKit

section
variable {P : Program} {Γ : Ctx} {W W' : World} {B : Nat} {h : Heap}

theorem first_of (H : HeapRel Γ W B h) {sz m k : Nat} {x : AV} {xs : List AV} {v : Value} (he : elemsA h sz x = some (m, xs)) (hv : Rep Γ W x v) (hk : k ≤ m) :
    (∀ w, (Builtin.lenOf v).run P w = .ok m w) ∧ ∃ new : List Value, (Builtin.firstCells sz k v).run P W = .ok new.toArray W ∧ Cells Γ W (xs.take (k * sz)) new := by
  have hlen := elems_len he
  have hle : k * sz ≤ m * sz := Nat.mul_le_mul_right _ hk
  have key : ∀ {a : Addr} {vs : Nat → Value} {n cap : Nat}, LiesAt Γ W xs a vs → ∃ new : List Value, (Builtin.firstCells sz k (.slice (some a) n cap)).run P W = .ok new.toArray W ∧ Cells Γ W (xs.take (k * sz)) new := by
    intro a vs n cap hl
    have hl' := hl.take (k * sz)
    refine ⟨_, ?_, hl'.cells⟩
    have := hl'.load' (P := P) (w := W) (fun _ => rfl)
    have htl : (xs.take (k * sz)).length = k * sz := by simp; omega
    rw [htl] at this
    simp only [Builtin.firstCells]
    rw [htl]
    exact this
  cases x with
  | nilsl =>
    simp only [elemsA, Option.some.injEq, Prod.mk.injEq] at he
    obtain ⟨rfl, rfl⟩ := he
    obtain rfl := rep_nilsl hv
    exact ⟨fun w => rfl, [], run_firstCells_none W _ _ _ _, by simpa using Cells.nil Γ W⟩
  | imm t n l =>
    obtain ⟨a, cap, vs, rfl, rfl, _, hl⟩ := elems_imm (B := B) he hv
    exact ⟨fun w => rfl, key hl⟩
  | own b ver off n sz' =>
    obtain ⟨a, cap, vs, rfl, rfl, _, hl⟩ := elems_own H he hv
    exact ⟨fun w => rfl, key hl⟩
  | str s =>
    obtain rfl := rep_str hv
    obtain ⟨new, S, hc⟩ := source_of (P := P) H he hv
    simp only [elemsA] at he
    split at he
    · rename_i h1
      simp only [Option.some.injEq, Prod.mk.injEq] at he
      obtain ⟨rfl, rfl⟩ := he
      subst h1
      have hall : new = s.data.toList.map fun b => .int .u8 b.toNat := by
        apply List.ext_getElem?
        intro i
        by_cases hi : i < s.data.toList.length
        · have hi2 : i < new.length := by rw [hc.len]; simpa using hi
          have := hc.rep i (.int .u8 (s.data.toList[i]).toNat) new[i] (by rw [List.getElem?_map, List.getElem?_eq_getElem hi]; rfl) (List.getElem?_eq_getElem hi2)
          rw [List.getElem?_eq_getElem hi2, rep_int this, List.getElem?_map, List.getElem?_eq_getElem hi]
          rfl
        · have hi2 : ¬ i < new.length := by rw [hc.len]; simpa using hi
          rw [List.getElem?_eq_none (by omega), List.getElem?_eq_none (by simp at hi ⊢; omega)]
      refine ⟨fun w => rfl, new.take k, ?_, by simpa using hc.take k⟩
      simp only [Builtin.firstCells, Sem.run_pure]
      congr 1
      apply Array.ext'
      rw [hall]
      have he : (s.extract 0 k).data.toList = s.data.toList.take k := by
        rw [ByteArray.data_extract]
        simp
      simp [← List.map_take, he]
    · cases he
  | _ => simp [elemsA] at he

theorem copy_done {T : List AV} {a : Act} {o : Oper} {td : TypeId} {tr : List TypeId} {ats : Array TypeId} {elem : TypeId} {d x : Operand} {b ver off n sz m : Nat} {y : AV} {xs : List AV}
    (R : ActRel Γ W T a) (H : HeapRel Γ W B h) (ho : o.op = .call { callee := .builtin .copy, args := #[d, x], argTypes := ats }) (hat : ats.toList = td :: tr)
    (hu : P.underlying td = some (.slice elem)) (hd : evA T d = some (.own b ver off n sz)) (hx : evA T x = some y) (hsz : sizeT P elem = some sz) (hel : elemsA h sz y = some (m, xs)) :
    (min m n = 0 → Done P Γ W B a o h (.int .i64 0)) ∧
    (∀ h', storeA h b ver off (xs.take (min m n * sz)) = some h' → Done P Γ W B a o h' (.int .i64 (min m n : Nat))) := by
  obtain ⟨ad, cap, e, hbN, hn, hg⟩ := rep_own (evA_rep R hd)
  have et : ats[0]? = some td := by rw [← Array.getElem?_toList, hat]; rfl
  obtain ⟨hl, new, hf, hc⟩ := first_of (P := P) H hel (evA_rep R hx) (Nat.min_le_left m n)
  have hrun : ∀ W', (storeCells ad new).run P W = .ok () W' → (execOp a.eval o).run P W = .ok (.value (.int .i64 (min m n : Nat))) W' := by
    intro W' h
    simp only [execOp, ho, resolve, invoke, builtin, Sem.run_bind, Sem.run_pure, Result.andThen_ok]
    have : (#[d, x] : Array Operand).map a.eval = #[.slice (some ad) n cap, a.eval x] := by simp [e]
    rw [this]
    unfold Builtin.copy_
    have hm : Nat.min m n = min m n := rfl
    simp only [et, List.getElem?_toArray, List.getElem?_cons_zero, List.getElem?_cons_succ, Sem.run_bind, run_underlyingA hu, Result.andThen_ok, hl, run_sizeOfA hsz, hm, hf, h, Sem.run_pure, goInt]
  refine ⟨fun h0 => ?_, fun h' hst => ?_⟩
  · have h0' : xs.take (min m n * sz) = [] := by rw [h0]; simp
    rw [h0'] at hc
    obtain rfl : new = [] := List.eq_nil_of_length_eq_zero (by simpa using hc.len)
    refine ⟨_, W, Γ, .inl (by have := hrun W (by simp [storeCells]); rw [h0] at this; exact this), H, Ext.refl _ _, Below.refl _ _, .cl _ _ (.int _ _)⟩
  · unfold storeA at hst
    split at hst
    · rename_i k hk
      split at hst
      · rename_i hcond
        injection hst with hst
        subst hst
        obtain ⟨q, hq, hver, ok⟩ := H.get hk
        obtain ⟨e1, _⟩ := (hg q hq).2 hver
        subst e1
        obtain ⟨c, fz, hcell, hcsz, hfz, _⟩ := ok.ex
        have hlen := ok.len
        have hroom := ok.room
        have hcl := hc.len
        obtain ⟨W', hr, hw⟩ := run_storeCellsA (P := P) (o := q.base + off) new 0 W c hcell hfz (by omega) hc.oneCell
        rw [Nat.add_zero] at hw
        obtain ⟨r1, r2, r3⟩ := H.store hk hcond.1 hq hc hcond.2 hw
        exact ⟨_, W', _, .inl (hrun W' hr), r1, r2, r3, .cl _ _ (.int _ _)⟩
      · cases hst
    · cases hst

theorem run_loadBytesA {vs : Nat → Int} : ∀ (n : Nat) (k : Nat) (a : Addr) (acc : ByteArray), a.spot = none → (∀ j, j < n → W.cell? ⟨a.block, a.off + j, none⟩ = some (.int .u8 (vs (k + j)))) →
    (loadBytes a acc n).run P W = .ok ⟨(acc.data.toList ++ (List.range n).map fun j => UInt8.ofNat (vs (k + j)).toNat).toArray⟩ W
  | 0, k, a, acc, _, _ => by simp [loadBytes]
  | n + 1, k, a, acc, hs, h => by
    have h0 := h 0 (by omega)
    have ha : (⟨a.block, a.off + 0, none⟩ : Addr) = a := by cases a; simp_all
    rw [ha] at h0
    simp only [loadBytes, Sem.run_bind, run_load, h0, Result.andThen_ok, Nat.add_zero]
    rw [run_loadBytesA n (k + 1) (a.add 1) _ (by rw [add_eq hs]) (fun j hj => by
      have := h (j + 1) (by omega)
      rw [add_eq hs]
      simp only
      rw [show a.off + 1 + j = a.off + (j + 1) from by omega, show k + 1 + j = k + (j + 1) from by omega]
      exact this)]
    congr 2
    rw [List.range_succ_eq_map]
    apply Array.ext'
    simp only [ByteArray.push, Array.toList_push, List.map_cons, List.map_map, Nat.add_zero, List.append_assoc, List.cons_append, List.nil_append]
    congr 2
    apply List.map_congr_left
    intro j _
    simp only [Function.comp]
    rw [show k + 1 + j = k + (j + 1) from by omega]

theorem HeapRel.kill (H : HeapRel Γ W B h) {b : Nat} {k k' : Blk} {q : Geo} (hk : h[b]? = some k) (hq : Γ.g b = some q) (hd : k'.dead = true) (hf : k'.fr = false)
    (hcell : ∀ a, W'.cell? a = W.cell? a) (hoth : ∀ β, β ≠ q.blk → W'.heap[β]? = W.heap[β]?) (hsz : W'.heap.size = W.heap.size) :
    HeapRel (Γ.kill b) W' B (h.set b k') ∧ Ext Γ W (Γ.kill b) W' := by
  have e : Ext Γ W (Γ.kill b) W' := by
    refine ⟨rfl, fun _ h => h, fun b1 q1 hb hq1 => ?_, fun β o hG => ⟨hG, hcell _⟩, fun _ _ h => .inl h⟩
    simp only [Ctx.kill] at hq1
    split at hq1
    · cases hq1
    · exact ⟨q1, hq1, .inl rfl⟩
  refine ⟨⟨H.eB, by simp [Ctx.kill, H.n], fun b1 hb1 => by rw [List.length_set]; exact H.bn b1 hb1, fun b1 k1 hk1 hd1 hf1 hb1 => ?_, fun b1 k1 hk1 hd1 => ?_, fun b1 q1 hq1 => ?_, fun b1 b2 q1 q2 hq1 hq2 hbl => ?_, fun β o hG => by rw [hsz]; exact H.G β o hG⟩, e⟩
  · rw [List.getElem?_set] at hk1
    split at hk1
    · split at hk1
      · injection hk1 with hk1
        subst hk1
        rw [hf] at hf1
        cases hf1
      · cases hk1
    · exact H.ub b1 k1 hk1 hd1 hf1 hb1
  · rw [List.getElem?_set] at hk1
    split at hk1
    · split at hk1
      · injection hk1 with hk1
        subst hk1
        rw [hd] at hd1
        cases hd1
      · cases hk1
    · rename_i hbb
      obtain ⟨q1, hq1, ok⟩ := H.blk b1 k1 hk1 hd1
      refine ⟨q1, by simp only [Ctx.kill]; rw [if_neg (fun e => hbb e.symm)]; exact hq1, ok.ext e (hoth _ (fun hbl => hbb ?_)) (fun o ho => ho)⟩
      exact (H.inj _ _ _ _ hq1 hq hbl).symm
  · simp only [Ctx.kill] at hq1
    split at hq1
    · cases hq1
    · rename_i hbb
      obtain ⟨hbn1, k1, hk1, hd1⟩ := H.back b1 q1 hq1
      exact ⟨hbn1, k1, by rw [List.getElem?_set, if_neg (fun e => hbb e.symm)]; exact hk1, hd1⟩
  · simp only [Ctx.kill] at hq1 hq2
    split at hq1
    · cases hq1
    · split at hq2
      · cases hq2
      · exact H.inj _ _ _ _ hq1 hq2 hbl

theorem sameLayout_self (P : Program) (d : Nat) (t : TypeId) : sameLayout P (d + 1) t t = true := by simp [sameLayout]

theorem cell?_freeze (w : World) (a b : Addr) (n : Nat) : (w.freeze a n).cell? b = w.cell? b := by
  unfold World.freeze
  split
  · rfl
  · simp only [World.cell?, Array.getElem?_modify]
    by_cases hb : a.block = b.block
    · rw [if_pos hb]
      cases w.heap[b.block]? with
      | none => rfl
      | some o => cases o <;> rfl
    · rw [if_neg hb]

theorem heap_freeze (w : World) (a : Addr) (n β : Nat) (h : β ≠ a.block) : (w.freeze a n).heap[β]? = w.heap[β]? := by
  unfold World.freeze
  split
  · rfl
  · simp only [Array.getElem?_modify]
    rw [if_neg (fun e => h e.symm)]

theorem size_freeze (w : World) (a : Addr) (n : Nat) : (w.freeze a n).heap.size = w.heap.size := by
  unfold World.freeze
  split <;> simp

theorem aside_freeze (w : World) (a : Addr) (n : Nat) : Aside w (w.freeze a n) := by
  unfold World.freeze
  split <;> exact ⟨rfl, rfl, rfl⟩

theorem unsafeString_some (pt : TypeId) (tr : List TypeId) (ty : TypeId) (a : Addr) (k : IntKind) (n : Int) :
    Builtin.unsafeString_ (pt :: tr).toArray ty #[.pointer (some a), .int k n] =
      (do
        let n ← asInt (.int k n)
        if n < 0 then runtimePanic (.error "unsafe.String: len out of range")
        if n > IntKind.i64.max then unsupported (.unsafePointer "String: a length above the largest int")
        if n = 0 then pure (.string .empty)
        else if ← variablesAt a (← elemOf pt) n.toNat then do
          let s ← loadBytes a .empty n.toNat
          freeze a n.toNat
          pure (.string s)
        else unsupported (.unsafePointer "String: not so many bytes at ptr")) := rfl

theorem unsafeString_none (pt : TypeId) (tr : List TypeId) (ty : TypeId) (k : IntKind) (n : Int) :
    Builtin.unsafeString_ (pt :: tr).toArray ty #[.pointer none, .int k n] =
      (do
        let n ← asInt (.int k n)
        if n < 0 then runtimePanic (.error "unsafe.String: len out of range")
        if n > IntKind.i64.max then unsupported (.unsafePointer "String: a length above the largest int")
        if n = 0 then pure (.string .empty)
        else runtimePanic (.error "unsafe.String: ptr is nil and len is not zero")) := rfl

theorem ustr_done {T : List AV} {a : Act} {o : Oper} {args : Array Operand} {ats : Array TypeId} {pt el : TypeId} {tr : List TypeId} {b ver off : Nat} {k0 : IntKind} {n : Int} {k : Blk} {bs : List UInt8}
    (R : ActRel Γ W T a) (H : HeapRel Γ W B h) (ho : o.op = .call { callee := .builtin .unsafeString, args, argTypes := ats }) (hat : ats.toList = pt :: tr)
    (hm : mapO (evA T) args.toList = some [.ptr b ver off, .int k0 n]) (hk : hget h b ver = some k) (hu : P.underlying pt = some (.pointer el))
    (h0 : 0 < n) (h1 : n ≤ 140737488355328) (hel : el = k.el) (hc1 : P.cellsOf el = 1) (hle : off + n.toNat ≤ k.cells.length) (hbs : bytesA ((k.cells.drop off).take n.toNat) = some bs) :
    Done P Γ W B a o (h.set b ⟨k.ver, false, k.el, k.ex, true, k.cells⟩) (.str ⟨bs.toArray⟩) := by
  obtain ⟨e1, e2⟩ := mapO_evA R hm
  obtain ⟨hkh, hkv, hkd⟩ := hget_spec hk
  obtain ⟨q, hq, hver, ok⟩ := H.get hk
  have hargs : ∃ u v, args.toList.map a.eval = [u, v] := by
    match hl : args.toList.map a.eval, e1 with
    | [u, v], _ => exact ⟨u, v, rfl⟩
  obtain ⟨u, v, hargs⟩ := hargs
  rw [hargs] at e2
  obtain ⟨ad, rfl, hbN, hg⟩ := rep_ptr (e2 0 _ _ rfl rfl)
  obtain rfl := rep_int (e2 1 _ _ rfl rfl)
  have ead := (hg q hq).2 hver
  subst ead
  obtain ⟨c, fz, hcell, hcsz, hfz, hcc⟩ := ok.ex
  have hlen := ok.len
  have hroom := ok.room
  have harr : args.map a.eval = #[.pointer (some ⟨q.blk, q.base + off, none⟩), .int k0 n] := by apply Array.ext'; rw [Array.toList_map]; exact hargs
  have et : ats[0]? = some pt := by rw [← Array.getElem?_toList, hat]; rfl
  obtain ⟨ns, hns, rfl⟩ := bytesA_spec hbs
  have hnl : ns.length = n.toNat := by
    have := congrArg List.length hns
    simp at this
    omega
  have hcells : ∀ j, j < n.toNat → W.cell? ⟨q.blk, q.base + off + j, none⟩ = some (.int .u8 (ns.getD (0 + j) 0)) := by
    intro j hj
    have hx : k.cells[off + j]? = some (.int .u8 (ns.getD j 0)) := by
      have := congrArg (fun l => l[j]?) hns
      simp only [List.getElem?_take, List.getElem?_drop, if_pos hj, List.getElem?_map] at this
      rw [this, List.getD_eq_getElem?_getD, List.getElem?_eq_getElem (by omega)]
      rfl
    obtain ⟨_, v, hv, hr⟩ := ok.cell hx
    rw [rep_int hr] at hv
    rw [Nat.zero_add, Nat.add_assoc]
    exact hv
  have hload := run_loadBytesA (P := P) (W := W) (vs := fun j => ns.getD j 0) n.toNat 0 ⟨q.blk, q.base + off, none⟩ .empty rfl hcells
  have hvar : (variablesAt ⟨q.blk, q.base + off, none⟩ el n.toNat).run P W = .ok true W := by
    have hd : ∃ d, P.depth = d + 1 := ⟨2 * (P.types.size + Made.depth) + 1, rfl⟩
    obtain ⟨d, hd⟩ := hd
    have hl : liesAt P P.depth k.el (c.size / P.cellsOf k.el) (q.base + off) el n.toNat = true := by
      rw [← hel, hc1, hd]
      simp only [liesAt, rowAt, hd, hc1, Nat.div_one, Nat.mod_one]
      simp [sameLayout_self]
      left
      omega
    simp [variablesAt, World.shape?, hcell, hl]
  have hrun : (execOp a.eval o).run P W = .ok (.value (.string ⟨(ns.map fun n => UInt8.ofNat n.toNat).toArray⟩)) (W.freeze ⟨q.blk, q.base + off, none⟩ n.toNat) := by
    simp only [execOp, ho, resolve, invoke, builtin, Sem.run_bind, Sem.run_pure, Result.andThen_ok, harr]
    have hres : (ByteArray.mk ((ByteArray.empty.data.toList ++ (List.range n.toNat).map fun j => UInt8.ofNat (ns.getD (0 + j) 0).toNat).toArray)) = ⟨(ns.map fun n => UInt8.ofNat n.toNat).toArray⟩ := by
      congr 2
      rw [show ByteArray.empty.data.toList = [] from rfl, List.nil_append]
      apply List.ext_getElem?
      intro j
      rw [List.getElem?_map, List.getElem?_map]
      by_cases hj : j < n.toNat
      · rw [List.getElem?_range hj, List.getElem?_eq_getElem (by omega)]
        simp [List.getD_eq_getElem?_getD, List.getElem?_eq_getElem (show j < ns.length by omega)]
      · rw [List.getElem?_eq_none (by simp; omega), List.getElem?_eq_none (by omega)]
        rfl
    have hmax : ¬ n > IntKind.i64.max := by
      have e : IntKind.i64.max = 9223372036854775807 := rfl
      omega
    have helem : (elemOf pt).run P W = .ok el W := by simp [elemOf, run_underlyingA hu]
    have hats : ats = (pt :: tr).toArray := by rw [← hat]
    have hneg : ¬ n < 0 := by omega
    have hne : ¬ n = 0 := by omega
    have hmax' : ¬ 9223372036854775807 < n := by omega
    have e : IntKind.i64.max = 9223372036854775807 := rfl
    rw [hats, unsafeString_some]
    simp only [asInt, asIntOf, Sem.run_bind, Sem.run_pure, Result.andThen_ok, gt_iff_lt, e, if_neg hneg, if_neg hmax', if_neg hne, helem, hvar, hload, if_true, run_freeze]
    rw [hres]
  obtain ⟨r1, r2⟩ := H.kill (k' := ⟨k.ver, false, k.el, k.ex, true, k.cells⟩) (W' := W.freeze ⟨q.blk, q.base + off, none⟩ n.toNat) hkh hq rfl rfl (fun a => cell?_freeze _ _ _ _) (fun β hβ => heap_freeze _ _ _ _ hβ) (size_freeze _ _ _)
  have ha := aside_freeze W ⟨q.blk, q.base + off, none⟩ n.toNat
  exact ⟨_, _, _, .inl hrun, r1, r2, ⟨ha.os, ha.tape, ha.output, by rw [size_freeze]; exact Nat.le_refl _, fun i hi => heap_freeze _ _ _ _ (by have := ok.lo; simp only; omega)⟩, .cl _ _ (.str _)⟩

end
end Go.Abs
