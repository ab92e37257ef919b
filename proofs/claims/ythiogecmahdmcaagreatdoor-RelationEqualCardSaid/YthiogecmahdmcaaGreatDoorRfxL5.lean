/- Operations that turn the heap: append, copy, unsafe.String. -/
import Derived.Test.YthiogecmahdmcaaGreatDoorRfxL4
set_option linter.unusedVariables false
set_option linter.unusedSimpArgs false
namespace Go.Abs
open Go.RowKit

section
variable {P : Program} {Γ : Ctx} {W W' : World} {B : Nat} {h : Heap}

theorem Cells.oneCell {l : List AV} {ws : List Value} (hc : Cells Γ W l ws) : ∀ v ∈ ws, v.oneCell' = true := by
  intro v hv
  obtain ⟨i, hi, rfl⟩ := List.getElem_of_mem hv
  have hi' : i < l.length := by rw [← hc.len]; exact hi
  exact (hc.rep i l[i] ws[i] (List.getElem?_eq_getElem hi') (List.getElem?_eq_getElem hi)).oneCell (hc.one i l[i] (List.getElem?_eq_getElem hi'))

/-- The cells of a list, loaded in any world that has the same cells. -/
theorem LiesAt.load' {l : List AV} {a : Addr} {vs : Nat → Value} (hl : LiesAt Γ W l a vs) {w : World} (hw : ∀ a, w.cell? a = W.cell? a) :
    (loadCells a l.length).run P w = .ok ((List.range l.length).map vs).toArray w := by
  unfold loadCells
  rw [run_loadCellsA (vs := vs) l.length 0 #[] (fun j hj => by rw [Nat.zero_add, hw]; exact (hl j l[j] (List.getElem?_eq_getElem hj)).2.1)]
  simp

theorem LiesAt.cells {l : List AV} {a : Addr} {vs : Nat → Value} (hl : LiesAt Γ W l a vs) : Cells Γ W l ((List.range l.length).map vs) := by
  refine ⟨by simp, fun i x hx => (hl i x hx).1, fun i x y hx hy => ?_⟩
  have hi : i < l.length := (List.getElem?_eq_some_iff.1 hx).1
  rw [List.getElem?_map, List.getElem?_range hi] at hy
  simp at hy
  subst hy
  exact (hl i x hx).2.2

theorem elems_len {sz m : Nat} {x : AV} {xs : List AV} (he : elemsA h sz x = some (m, xs)) : xs.length = m * sz := by
  unfold elemsA at he
  split at he
  · simp only [Option.some.injEq, Prod.mk.injEq] at he
    obtain ⟨rfl, rfl⟩ := he
    simp
  · split at he
    · simp only [Option.some.injEq, Prod.mk.injEq] at he
      obtain ⟨rfl, rfl⟩ := he
      simp
      omega
    · cases he
  · split at he
    · split at he
      · rename_i hle
        simp only [Option.some.injEq, Prod.mk.injEq] at he
        obtain ⟨rfl, rfl⟩ := he
        simp
        omega
      · cases he
    · cases he
  · split at he
    · rename_i h1
      simp only [Option.some.injEq, Prod.mk.injEq] at he
      obtain ⟨rfl, rfl⟩ := he
      subst h1
      rw [List.length_map, Array.length_toList, Nat.mul_one]
      rfl
    · cases he
  · cases he

theorem source_of (H : HeapRel Γ W B h) {sz m : Nat} {x : AV} {xs : List AV} {v : Value} (he : elemsA h sz x = some (m, xs)) (hv : Rep Γ W x v) :
    ∃ new : List Value, Source P W sz m v new ∧ Cells Γ W xs new := by
  have hlen := elems_len he
  cases x with
  | nilsl =>
    simp only [elemsA, Option.some.injEq, Prod.mk.injEq] at he
    obtain ⟨rfl, rfl⟩ := he
    obtain rfl := rep_nilsl hv
    exact ⟨[], ⟨fun w => rfl, fun w _ => run_firstCells_none w _ _ _ _, fun v hv => by cases hv⟩, Cells.nil _ _⟩
  | imm t n l =>
    obtain ⟨a, cap, vs, rfl, rfl, _, hl⟩ := elems_imm (B := B) he hv
    refine ⟨_, ⟨fun w => rfl, fun w hw => ?_, hl.cells.oneCell⟩, hl.cells⟩
    have := hl.load' (P := P) hw
    simp only [Builtin.firstCells]
    rw [← hlen]
    exact this
  | own b ver off n sz' =>
    obtain ⟨a, cap, vs, rfl, rfl, _, hl⟩ := elems_own H he hv
    refine ⟨_, ⟨fun w => rfl, fun w hw => ?_, hl.cells.oneCell⟩, hl.cells⟩
    have := hl.load' (P := P) hw
    simp only [Builtin.firstCells]
    rw [← hlen]
    exact this
  | str s =>
    obtain rfl := rep_str hv
    simp only [elemsA] at he
    split at he
    · rename_i h1
      simp only [Option.some.injEq, Prod.mk.injEq] at he
      obtain ⟨rfl, rfl⟩ := he
      refine ⟨s.data.toList.map fun b => .int .u8 b.toNat, ⟨fun w => rfl, fun w _ => ?_, fun v hv => ?_⟩, ⟨by simp, fun i x hx => ?_, fun i x y hx hy => ?_⟩⟩
      · simp only [Builtin.firstCells, Sem.run_pure]
        congr 1
        have : (s.extract 0 s.size).data = s.data := by rw [ByteArray.extract_zero_size]
        rw [this]
        apply Array.ext'
        simp
      · obtain ⟨b, _, rfl⟩ := List.mem_map.1 hv
        rfl
      · rw [List.getElem?_map, Option.map_eq_some_iff] at hx
        obtain ⟨b, _, rfl⟩ := hx
        rfl
      · rw [List.getElem?_map, Option.map_eq_some_iff] at hx hy
        obtain ⟨b, hb, rfl⟩ := hx
        obtain ⟨b', hb', rfl⟩ := hy
        rw [hb] at hb'
        injection hb' with hb'
        subst hb'
        exact .cl _ _ (.int _ _)
    · cases he
  | _ => simp [elemsA] at he

theorem grown_ge (need old : Nat) (e : TypeId) : need ≤ grownCap W need old e := by
  simp only [grownCap, Question.cut]
  omega

/-- What an append that grows lays: what was there, what is new, zero values. -/
theorem grown_cells {olds xs : List AV} {old new : List Value} {zc : Array Value} (ho : Cells Γ W olds old) (hn : Cells Γ W xs new) {N : Nat} :
    Cells Γ W (olds ++ xs) (((old.toArray ++ new.toArray ++ zc).toList).take (olds ++ xs).length) := by
  have : ((old.toArray ++ new.toArray ++ zc).toList).take (olds ++ xs).length = old ++ new := by
    simp only [Array.toList_append, List.toList_toArray]
    rw [List.take_append_of_le_length (by simp [ho.len, hn.len])]
    rw [List.take_of_length_le (by simp [ho.len, hn.len])]
  rw [this]
  exact ho.append hn

theorem append_done {T : List AV} {a : Act} {o : Oper} {ts tx elem : TypeId} {s x : Operand} {dx : TypeDesc} {p y v : AV} {sz m : Nat} {xs : List AV} {h' : Heap}
    (R : ActRel Γ W T a) (H : HeapRel Γ W B h) (hB : B ≤ W.heap.size) (ho : o.op = .call { callee := .builtin .append, args := #[s, x], argTypes := #[ts, tx] })
    (hs : P.underlying ts = some (.slice elem)) (hx : P.underlying tx = some dx) (hdx : ∀ k, dx ≠ .int k) (hp : evA T s = some p) (hy : evA T x = some y) (hsz : sizeT P elem = some sz)
    (hel : elemsA h sz y = some (m, xs)) (hap : appendL P elem h p m xs = some (v, h')) : Done P Γ W B a o h' v := by
  obtain ⟨new, S, hcn⟩ := source_of (P := P) H hel (evA_rep R hy)
  have rs := evA_rep R hp
  have hrun : ∀ W' v', (Builtin.append_ #[ts, tx] o.type #[a.eval s, a.eval x]).run P W = .ok v' W' → (execOp a.eval o).run P W = .ok (.value v') W' := by
    intro W' v' h
    simp only [execOp, ho, resolve, invoke, builtin, Sem.run_bind, Sem.run_pure, Result.andThen_ok]
    have : (#[s, x] : Array Operand).map a.eval = #[a.eval s, a.eval x] := by simp
    rw [this, h]
    rfl
  have same : ∀ v', a.eval s = v' → (Builtin.append_ #[ts, tx] o.type #[a.eval s, a.eval x]).run P W = .ok v' W → Rep Γ W p v' → Done P Γ W B a o h p := by
    intro v' _ hr hrep
    exact ⟨v', W, Γ, .inl (hrun _ _ hr), H, Ext.refl _ _, Below.refl _ _, hrep⟩
  unfold appendL at hap
  split at hap
  · rename_i sz' bytes z hsz' hby hz
    rw [hsz] at hsz'
    injection hsz' with hsz'
    subst hsz'
    split at hap
    · rename_i hcond
      obtain ⟨hzl, hbp, hsp, hxl⟩ := hcond
      have hnl := hcn.len
      obtain ⟨zv, i, hi, hzv, hcells⟩ := zeroT_rep hz
      obtain ⟨wz, hwz, hcz, _⟩ := hcells Γ W
      have hib : i.bytes = bytes := by simp [bytesT, hi] at hby; exact hby
      have hisz : i.size = sz := by simp [sizeT, hi] at hsz; exact hsz
      have hzs : zv.cells.size = sz := by rw [hwz]; simp [hcz.len, hzl]
      split at hap
      · -- nothing is appended
        rename_i hm
        subst hm
        have hx0 : xs = [] := List.eq_nil_of_length_eq_zero (by rw [hxl]; simp)
        subst hx0
        obtain rfl : new = [] := List.eq_nil_of_length_eq_zero (by simpa using hnl)
        split at hap
        · injection hap with hap
          injection hap with e1 e2
          subst e1 e2
          have e := rep_nilsl rs
          refine same _ e ?_ (.cl _ _ .nilsl)
          rw [e]
          have hz0 : ((match dx with | .int _ => true | _ => false) : Bool) = false := by cases dx <;> first | rfl | exact absurd rfl (hdx _)
          unfold Builtin.append_
          simp only [List.getElem?_toArray, List.getElem?_cons_zero, List.getElem?_cons_succ, Sem.run_bind, run_underlyingA hs, run_underlyingA hx, Result.andThen_ok, run_sizeOfA hsz, Sem.run_pure, hz0, Bool.false_eq_true, if_false,
            S.len, Nat.le_refl, Nat.add_zero, if_true, Bool.not_false, S.cells W (fun _ => rfl)]
        · injection hap with hap
          injection hap with e1 e2
          subst e1 e2
          obtain ⟨ad, cap, vs, e, hn, _⟩ := rep_imm rs
          refine same _ e ?_ (e ▸ rs)
          rw [e]
          exact run_append_roomA hs hx hdx hsz S (by omega) (by simp [storeCells])
        · injection hap with hap
          injection hap with e1 e2
          subst e1 e2
          obtain ⟨ad, cap, e, _, hn, _⟩ := rep_own rs
          refine same _ e ?_ (e ▸ rs)
          rw [e]
          exact run_append_roomA hs hx hdx hsz S (by omega) (by simp [storeCells])
        · cases hap
      · rename_i hm0
        split at hap
        · -- onto nil
          split at hap
          · rename_i hfit
            injection hap with hap
            injection hap with e1 e2
            subst e1 e2
            have e := rep_nilsl rs
            have hr := run_append_growA (ty := o.type) (old := []) hs hx hdx hi hisz hib hzv S (sLen := 0) (sCap := 0) (base := none) (fun w _ => run_firstCells_none w _ _ _ _) (by omega) (by simpa using hfit) hbp
            rw [e] at hrun
            have hge := grown_ge (W := W) (0 + m) 0 elem
            have hcs : (([] : List Value).toArray ++ new.toArray ++ Builtin.zeroCells zv.cells (grownCap W (0 + m) 0 elem - (0 + m))).size = grownCap W (0 + m) 0 elem * sz := by
              simp only [Array.size_append, List.size_toArray, List.length_nil, size_zeroCells, hnl, hxl, hzs]
              rw [Nat.sub_mul]
              have : (0 + m) * sz ≤ grownCap W (0 + m) 0 elem * sz := Nat.mul_le_mul_right _ hge
              simp only [Nat.zero_add] at *
              omega
            have hle : xs.length ≤ grownCap W (0 + m) 0 elem * sz := by rw [hxl]; exact Nat.mul_le_mul_right _ (by omega)
            have hcc : Cells Γ W xs (((([] : List Value).toArray ++ new.toArray ++ Builtin.zeroCells zv.cells (grownCap W (0 + m) 0 elem - (0 + m))).toList).take xs.length) := by
              have := grown_cells (zc := Builtin.zeroCells zv.cells (grownCap W (0 + m) 0 elem - (0 + m))) (Cells.nil Γ W) hcn (N := 0)
              simpa using this
            refine ⟨_, _, Γ.new ⟨0, xs.length, W.heap.size, 0, _⟩, .inl (hrun _ _ hr), H.push hB (W' := W.drew.alloc _) rfl hcc (by rw [hcs]; exact hle) (fun h => by cases h) (fun o _ h => by simp at h), ext_push H rfl, below_push rfl ⟨rfl, rfl, rfl⟩ hB, ?_⟩
            rw [← H.n, Nat.zero_add]
            rw [Nat.zero_add] at hcs hle hge
            exact rep_new_own (q := ⟨0, xs.length, W.heap.size, 0, _⟩) hge (by simpa using hle) (by simp only [Nat.zero_add]; rw [hcs]; exact Nat.le_refl _) rfl
          · cases hap
        · -- onto a slice without room
          rename_i n l
          split at hap
          · rename_i hfit
            injection hap with hap
            injection hap with e1 e2
            subst e1 e2
            obtain ⟨ad, cap, vs, e, hn, ht, hc1, hc2⟩ := rep_imm rs
            have hcap := ht rfl
            subst hcap
            have hl : LiesAt Γ W (l.take (cap * sz)) ad vs := (imm_lies hc1 hc2).take _
            have htl : (l.take (cap * sz)).length = cap * sz := by simp [hfit.2]
            have hr := run_append_growA (ty := o.type) (old := (List.range (cap * sz)).map vs) hs hx hdx hi hisz hib hzv S (sLen := cap) (sCap := cap) (base := some ad) (fun w hw => by
              have := hl.load' (P := P) hw
              rw [htl] at this
              simp only [Builtin.firstCells]
              exact this) (by omega) hfit.1 hbp
            rw [e] at hrun
            have hge := grown_ge (W := W) (cap + m) cap elem
            have hoc := hl.cells
            rw [htl] at hoc
            have hcs : (((List.range (cap * sz)).map vs).toArray ++ new.toArray ++ Builtin.zeroCells zv.cells (grownCap W (cap + m) cap elem - (cap + m))).size = grownCap W (cap + m) cap elem * sz := by
              simp only [Array.size_append, List.size_toArray, List.length_map, List.length_range, size_zeroCells, hnl, hxl, hzs]
              rw [Nat.sub_mul, ← Nat.add_mul]
              have : (cap + m) * sz ≤ grownCap W (cap + m) cap elem * sz := Nat.mul_le_mul_right _ hge
              omega
            have hlen2 : (l.take (cap * sz) ++ xs).length = (cap + m) * sz := by rw [List.length_append, htl, hxl, Nat.add_mul]
            have hle : (l.take (cap * sz) ++ xs).length ≤ grownCap W (cap + m) cap elem * sz := by rw [hlen2]; exact Nat.mul_le_mul_right _ hge
            refine ⟨_, _, Γ.new ⟨0, (l.take (cap * sz) ++ xs).length, W.heap.size, 0, _⟩, .inl (hrun _ _ hr), H.push hB (W' := W.drew.alloc _) rfl (grown_cells hoc hcn (N := 0)) (by rw [hcs]; exact hle) (fun h => by cases h) (fun o _ h => by simp at h), ext_push H rfl, below_push rfl ⟨rfl, rfl, rfl⟩ hB, ?_⟩
            rw [← H.n]
            exact rep_new_own (q := ⟨0, (l.take (cap * sz) ++ xs).length, W.heap.size, 0, _⟩) hge hle (by simp only [Nat.zero_add]; rw [hcs]; exact Nat.le_refl _) rfl
          · cases hap
        · -- onto a slice of one's own
          rename_i b ver off n sz2
          split at hap
          · rename_i k hk
            split at hap
            · rename_i hss
              obtain ⟨rfl, hkel⟩ := hss
              obtain ⟨hkh, hkv, hkd⟩ := hget_spec hk
              obtain ⟨q, hq, hver, ok⟩ := H.get hk
              obtain ⟨ad, cap, e, hbN, hn, hg⟩ := rep_own rs
              obtain ⟨e1, hg2, hg3⟩ := (hg q hq).2 hver
              subst e1
              rw [e] at hrun
              obtain ⟨c, fz, hcell, hcsz, hfz, hcc⟩ := ok.ex
              have hlen := ok.len
              have hroom := ok.room
              have hlies := ok.lies off
              split at hap
              · -- at the end of what is known
                rename_i hend
                split at hap
                · rename_i hfit
                  injection hap with hap
                  injection hap with e1 e2
                  subst e1 e2
                  have hdl : (k.cells.drop off).length = n * sz := by simp; omega
                  have hnm : (n + m) * sz = n * sz + m * sz := Nat.add_mul _ _ _
                  by_cases hcap : n + m ≤ cap
                  · -- there is room
                    have hcm : (n + m) * sz ≤ cap * sz := Nat.mul_le_mul_right _ hcap
                    obtain ⟨W', hr, hw⟩ := run_storeCellsA (P := P) (o := q.base + off + n * sz) new 0 W c hcell hfz (by omega) hcn.oneCell
                    rw [Nat.add_zero] at hw
                    have hrr := run_append_roomA (ty := o.type) hs hx hdx hsz S hcap (a := ⟨q.blk, q.base + off, none⟩) (by rw [add_eq rfl]; exact hr)
                    obtain ⟨c', hc', hcs', hget'⟩ := hw.at_ _ _ _ hcell
                    have hfit' : q.base + off + n * sz + new.length ≤ c.size := by omega
                    have hGl : ∀ o, Γ.G q.blk o → o < q.base + q.len := by
                      intro o hG
                      rcases Nat.lt_or_ge o (q.base + q.len) with h1 | h1
                      · exact h1
                      · refine absurd hG (ok.free o ?_)
                        split <;> omega
                    have hG : ∀ β o, Γ.G β o → W'.cell? ⟨β, o, none⟩ = W.cell? ⟨β, o, none⟩ := by
                      intro β o hgd
                      by_cases hb : β = q.blk
                      · subst hb
                        have := hGl o hgd
                        simp only [World.cell?, hcell, hc']
                        simp only [Option.isSome_none, Bool.false_eq_true, if_false]
                        rw [hget' o hfit', if_neg (by omega)]
                      · exact cell?_of_heap (hw.oth β hb)
                    have ex : Ext Γ W (Γ.upd b ⟨ver + 1, (k.cells.drop off ++ xs).length, q.blk, q.base + off, q.csz⟩) W' := ext_upd hq (.inr (by rw [hver]; exact Nat.lt_succ_self _)) hG
                    refine ⟨_, W', _, .inl (hrun _ _ hrr), H.upd hkh hq rfl ex ⟨rfl, rfl, ok.lo, ⟨c', fz, by rw [hc', hkel], by rw [hcs', hcsz], by rw [hcs']; exact hfz, fun j x hj => ?_⟩, (by simp [hdl]; omega), (fun h => by cases h), fun o ho => ?_⟩ (fun β hb _ => hw.oth β hb) (by rw [hw.size]; exact Nat.le_refl _) (.inl rfl), ex,
                      ⟨hw.aside.os, hw.aside.tape, hw.aside.output, by rw [hw.size]; exact Nat.le_refl _, fun i hi => hw.oth i (by have := ok.lo; omega)⟩, ?_⟩
                    · dsimp only at hj ⊢
                      rw [List.getElem?_append, hdl] at hj
                      rw [hget' _ hfit']
                      split at hj
                      · rename_i hjn
                        rw [List.getElem?_drop] at hj
                        rw [if_neg (by omega)]
                        obtain ⟨a1, v, a2, a3⟩ := hcc _ x hj
                        exact ⟨a1, v, by rw [Nat.add_assoc]; exact a2, a3.ext ex⟩
                      · rename_i hjn
                        have hjx : j - n * sz < xs.length := (List.getElem?_eq_some_iff.1 hj).1
                        rw [if_pos (by omega), show q.base + off + j - (q.base + off + n * sz) = j - n * sz from by omega]
                        have hjw : j - n * sz < new.length := by omega
                        exact ⟨hcn.one _ x hj, new[j - n * sz], List.getElem?_eq_getElem hjw, (hcn.rep _ x _ hj (List.getElem?_eq_getElem hjw)).ext ex⟩
                    · refine ok.free o ?_
                      dsimp only at ho
                      simp only [List.length_append, hdl] at ho
                      split at ho <;> split <;> first | omega | simp_all
                    · refine .own _ _ _ _ _ _ _ hbN hcap (fun q' hq' => ?_)
                      simp only [Ctx.upd, if_true] at hq'
                      injection hq' with hq'
                      subst hq'
                      exact ⟨Nat.le_refl _, fun _ => ⟨rfl, by simp [hdl, hxl]; omega, by simp; omega⟩⟩
                  · -- it grows
                    have htl : ((k.cells.drop off).take (n * sz)) = k.cells.drop off := List.take_of_length_le (by omega)
                    have hoc := hlies.cells
                    rw [hdl] at hoc
                    have hr := run_append_growA (ty := o.type) (old := (List.range (n * sz)).map fun i => (W.cell? ⟨q.blk, q.base + off + i, none⟩).getD undef) hs hx hdx hi hisz hib hzv S (sLen := n) (sCap := cap) (base := some ⟨q.blk, q.base + off, none⟩) (fun w hw => by
                      have := hlies.load' (P := P) hw
                      rw [hdl] at this
                      simp only [Builtin.firstCells]
                      exact this) (by omega) hfit hbp
                    have hge := grown_ge (W := W) (n + m) cap elem
                    have hcs : (((List.range (n * sz)).map fun i => (W.cell? ⟨q.blk, q.base + off + i, none⟩).getD undef).toArray ++ new.toArray ++ Builtin.zeroCells zv.cells (grownCap W (n + m) cap elem - (n + m))).size = grownCap W (n + m) cap elem * sz := by
                      simp only [Array.size_append, List.size_toArray, List.length_map, List.length_range, size_zeroCells, hnl, hxl, hzs]
                      rw [Nat.sub_mul, ← Nat.add_mul]
                      have : (n + m) * sz ≤ grownCap W (n + m) cap elem * sz := Nat.mul_le_mul_right _ hge
                      omega
                    have hlen2 : (k.cells.drop off ++ xs).length = (n + m) * sz := by rw [List.length_append, hdl, hxl, hnm]
                    have hle : (k.cells.drop off ++ xs).length ≤ grownCap W (n + m) cap elem * sz := by rw [hlen2]; exact Nat.mul_le_mul_right _ hge
                    have hall := grown_cells (zc := Builtin.zeroCells zv.cells (grownCap W (n + m) cap elem - (n + m))) hoc hcn (N := 0)
                    generalize hC : (((List.range (n * sz)).map fun i => (W.cell? ⟨q.blk, q.base + off + i, none⟩).getD undef).toArray ++ new.toArray ++ Builtin.zeroCells zv.cells (grownCap W (n + m) cap elem - (n + m))) = C at hr hcs hall
                    have hold : ∀ β, β < W.heap.size → (W.drew.alloc (.cells C elem)).heap[β]? = W.heap[β]? := fun β hβ => Below.heap_alloc W.drew _ β hβ
                    have ex : Ext Γ W (Γ.upd b ⟨ver + 1, (k.cells.drop off ++ xs).length, W.heap.size, 0, C.size⟩) (W.drew.alloc (.cells C elem)) :=
                      ext_upd hq (.inr (by rw [hver]; exact Nat.lt_succ_self _)) (fun β o hG => cell?_of_heap (hold β (H.G β o hG)))
                    refine ⟨_, _, _, .inl (hrun _ _ hr), H.upd hkh hq rfl ex ⟨rfl, rfl, hB, ⟨C, (0, 0), (by show (W.heap.push _)[W.heap.size]? = _; exact Array.getElem?_push_size), rfl, fun o _ h => by simp at h, fun j x hj => ?_⟩, (by simp only [Nat.zero_add]; rw [hcs]; exact hle), (fun h => by cases h), fun o _ hG => ?_⟩
                      (fun β _ hβ => hold β hβ) (by simp) (.inr (Nat.le_refl _)), ex, below_push rfl ⟨rfl, rfl, rfl⟩ hB, ?_⟩
                    · have hjl : j < (k.cells.drop off ++ xs).length := (List.getElem?_eq_some_iff.1 hj).1
                      have hjC : j < C.size := by omega
                      refine ⟨hall.one j x hj, C[j], by simp [hjC], (hall.rep j x C[j] hj ?_).ext ex⟩
                      rw [List.getElem?_take, if_pos hjl]
                      simp [hjC]
                    · have := H.G _ _ hG
                      simp at this
                    · refine .own _ _ _ _ _ _ _ hbN hge (fun q' hq' => ?_)
                      simp only [Ctx.upd, if_true] at hq'
                      injection hq' with hq'
                      subst hq'
                      exact ⟨Nat.le_refl _, fun _ => ⟨rfl, by simpa using hle, by simp only [Nat.zero_add]; rw [hcs]; exact Nat.le_refl _⟩⟩
                · cases hap
              · split at hap
                · rename_i hin
                  injection hap with hap
                  injection hap with e1 e2
                  subst e1 e2
                  have hnm : (n + m) * sz = n * sz + m * sz := Nat.add_mul _ _ _
                  have hcap : n + m ≤ cap := by
                    have : (n + m) * sz ≤ cap * sz := by omega
                    exact Nat.le_of_mul_le_mul_right this hsp
                  obtain ⟨W', hr, hw⟩ := run_storeCellsA (P := P) (o := q.base + off + n * sz) new 0 W c hcell hfz (by omega) hcn.oneCell
                  rw [Nat.add_zero, show q.base + off + n * sz = q.base + (off + n * sz) from by omega] at hw
                  have hrr := run_append_roomA (ty := o.type) hs hx hdx hsz S hcap (a := ⟨q.blk, q.base + off, none⟩) (by rw [add_eq rfl]; exact hr)
                  obtain ⟨r1, r2, r3⟩ := H.store hk hin.2 hq hcn (by omega) hw
                  refine ⟨_, W', _, .inl (hrun _ _ hrr), r1, r2, r3, ?_⟩
                  refine .own _ _ _ _ _ _ _ hbN hcap (fun q' hq' => ?_)
                  simp only [Ctx.upd, if_true] at hq'
                  injection hq' with hq'
                  subst hq'
                  exact ⟨by omega, fun _ => ⟨rfl, hg2, hg3⟩⟩
                · cases hap
            · cases hap
          · cases hap
        · cases hap
    · cases hap
  · cases hap

end
end Go.Abs
