/- Stores and appends: what the model does, in the form that the relation wants. -/
import Derived.Test.YthiogecmahdmcaaGreatDoorRfxL1
import Derived.Laws.AppendOwn
set_option linter.unusedVariables false
set_option linter.unusedSimpArgs false
namespace Go.Abs
open Go.RowKit

theorem splice_get {l vs : List AV} {off i : Nat} (h : off + vs.length ≤ l.length) :
    (splice l off vs)[i]? = if off ≤ i ∧ i < off + vs.length then vs[i - off]? else l[i]? := by
  unfold splice
  rw [List.append_assoc, List.getElem?_append]
  simp only [List.length_take, Nat.min_eq_left (show off ≤ l.length by omega)]
  by_cases h1 : i < off
  · rw [if_pos h1, if_neg (by omega), List.getElem?_take, if_pos h1]
  · rw [if_neg h1, List.getElem?_append]
    by_cases h2 : i - off < vs.length
    · rw [if_pos h2, if_pos (by omega)]
    · rw [if_neg h2, if_neg (by omega), List.getElem?_drop]
      congr 1
      omega

theorem splice_len {l vs : List AV} {off : Nat} (h : off + vs.length ≤ l.length) : (splice l off vs).length = l.length := by
  unfold splice
  simp
  omega

section
variable {P : Program} {Γ : Ctx} {W W' : World} {B : Nat} {h : Heap}

/-- The cells of block β from o on are written. -/
structure Written (W W' : World) (β o : Nat) (vs : List Value) : Prop where
  aside : Aside W W'
  size : W'.heap.size = W.heap.size
  oth : ∀ β', β' ≠ β → W'.heap[β']? = W.heap[β']?
  at_ : ∀ c el fz, W.heap[β]? = some (.cells c el fz) → ∃ c', W'.heap[β]? = some (.cells c' el fz) ∧ c'.size = c.size ∧
    ∀ i : Nat, o + vs.length ≤ c.size → c'[i]? = if o ≤ i ∧ i < o + vs.length then vs[i - o]? else c[i]?

theorem run_storeCellsA {β o : Nat} {el : TypeId} {fz : Nat × Nat} :
    ∀ (vs : List Value) (i : Nat) (W : World) (c : Array Value), W.heap[β]? = some (.cells c el fz) → (∀ o, o < c.size → ¬(fz.1 ≤ o ∧ o < fz.2)) → o + i + vs.length ≤ c.size → (∀ v ∈ vs, v.oneCell' = true) →
      ∃ W', (storeCells ⟨β, o, none⟩ vs i).run P W = .ok () W' ∧ Written W W' β (o + i) vs
  | [], i, W, c, hc, hf, hs, h1 => by
    refine ⟨W, by simp [storeCells], ⟨⟨rfl, rfl, rfl⟩, rfl, fun _ _ => rfl, fun c el fz hc => ⟨c, hc, rfl, fun i _ => ?_⟩⟩⟩
    rw [if_neg (by simp only [List.length_nil]; omega)]
  | v :: vs, i, W, c, hc, hf, hs, h1 => by
    simp only [List.length_cons] at hs
    have hcell : W.cell? ⟨β, o + i, none⟩ = some (c[o + i]'(by omega)) := by simp [World.cell?, hc]
    have hfz : W.frozen? ⟨β, o + i, none⟩ = false := by
      have := hf (o + i) (by omega)
      simp [World.frozen?, hc]
      omega
    have hset : (W.setCell ⟨β, o + i, none⟩ v).heap[β]? = some (.cells (c.setIfInBounds (o + i) v) el fz) := by
      simp [World.setCell, Array.getElem?_modify, hc]
    obtain ⟨W', hr, hw⟩ := run_storeCellsA (o := o) vs (i + 1) (W.setCell ⟨β, o + i, none⟩ v) (c.setIfInBounds (o + i) v) hset (by simpa using hf) (by simp; omega) (fun u hu => h1 u (by simp [hu]))
    refine ⟨W', ?_, ⟨⟨hw.aside.os, hw.aside.tape, hw.aside.output⟩, by rw [hw.size, World.size_setCell], fun β' hb => ?_, fun c1 el1 fz1 hc1 => ?_⟩⟩
    · simp only [storeCells, Sem.run_bind, add_eq (a := ⟨β, o, none⟩) rfl, run_store P W _ v _ (h1 v (by simp)), hcell, hfz, Result.andThen_ok]
      exact hr
    · rw [hw.oth β' hb]
      simp only [World.setCell, Array.getElem?_modify]
      rw [if_neg (fun e => hb e.symm)]
    · rw [hc] at hc1
      injection hc1 with hc1
      injection hc1 with e1 e2 e3
      subst e1 e2 e3
      obtain ⟨c', h2, h3, h4⟩ := hw.at_ _ _ _ hset
      refine ⟨c', h2, by simpa using h3, fun j hj => ?_⟩
      simp only [List.length_cons] at hj ⊢
      rw [h4 j (by simp; omega), Array.getElem?_setIfInBounds]
      by_cases e : o + i = j
      · subst e
        rw [if_neg (by omega), if_pos rfl, if_pos (by omega), if_pos (by omega)]
        simp
      · by_cases e2 : o + (i + 1) ≤ j ∧ j < o + (i + 1) + vs.length
        · rw [if_pos e2, if_pos (by omega), show j - (o + i) = (j - (o + (i + 1))) + 1 from by omega, List.getElem?_cons_succ]
        · rw [if_neg e2, if_neg e, if_neg (by omega)]

/-- A living block is written, in its known cells. -/
theorem HeapRel.store (H : HeapRel Γ W B h) {b ver off : Nat} {k : Blk} {q : Geo} (hk : hget h b ver = some k) (hfr : k.fr = false) (hq : Γ.g b = some q)
    {vs : List AV} {ws : List Value} (hc : Cells Γ W vs ws) (hle : off + vs.length ≤ k.cells.length) (hw : Written W W' q.blk (q.base + off) ws) :
    HeapRel (Γ.upd b q) W' B (h.set b ⟨ver, false, k.el, k.ex, false, splice k.cells off vs⟩) ∧ Ext Γ W (Γ.upd b q) W' ∧ Below B W W' := by
  obtain ⟨hkh, hkv, hkd⟩ := hget_spec hk
  obtain ⟨q', hq', ok⟩ := H.blk b k hkh hkd
  rw [hq] at hq'
  injection hq' with hq'
  subst hq'
  obtain ⟨c, fz, hcell, hcsz, hfz, hcc⟩ := ok.ex
  have hlen := ok.len
  have hroom := ok.room
  obtain ⟨c', hc', hcs', hget'⟩ := hw.at_ _ _ _ hcell
  have hfit : q.base + off + ws.length ≤ c.size := by have := hc.len; omega
  have hG : ∀ β o, Γ.G β o → W'.cell? ⟨β, o, none⟩ = W.cell? ⟨β, o, none⟩ := by
    intro β o hg
    by_cases hb : β = q.blk
    · subst hb
      have hlt : o < q.base := by
        rcases Nat.lt_or_ge o q.base with h1 | h1
        · exact h1
        · exact absurd hg (ok.free o (by rw [hfr]; simpa using h1))
      simp only [World.cell?, hcell, hc']
      simp only [Option.isSome_none, Bool.false_eq_true, if_false]
      rw [hget' o hfit, if_neg (by omega)]
    · exact cell?_of_heap (hw.oth β hb)
  have e : Ext Γ W (Γ.upd b q) W' := ext_upd hq (.inl rfl) hG
  refine ⟨?_, e, ⟨hw.aside.os, hw.aside.tape, hw.aside.output, by rw [hw.size]; exact Nat.le_refl _, fun i hi => hw.oth i (by have := ok.lo; omega)⟩⟩
  refine H.upd hkh hq rfl e ⟨by rw [ok.ver, hkv], by rw [splice_len hle]; exact hlen, ok.lo, ⟨c', fz, hc', by rw [hcs', hcsz], by rw [hcs']; exact hfz, fun i x hx => ?_⟩, hroom, ok.tight, fun o ho hg => ok.free o (by rw [hfr]; exact ho) hg⟩
    (fun β hb _ => hw.oth β hb) (by rw [hw.size]; exact Nat.le_refl _) (.inl rfl)
  rw [splice_get hle] at hx
  have hcl := hc.len
  rw [hget' _ hfit]
  split at hx
  · rename_i hi
    rw [if_pos (by omega)]
    have hwi : i - off < ws.length := by omega
    refine ⟨hc.one _ x hx, ws[i - off], ?_, (hc.rep _ x ws[i - off] hx (List.getElem?_eq_getElem hwi)).ext e⟩
    rw [show q.base + i - (q.base + off) = i - off from by omega]
    exact List.getElem?_eq_getElem hwi
  · rename_i hi
    rw [if_neg (by omega)]
    obtain ⟨a1, v, a2, a3⟩ := hcc i x hx
    exact ⟨a1, v, a2, a3.ext e⟩

/-- What is appended: so many elements, these cells. -/
structure Source (P : Program) (W : World) (size m : Nat) (x : Value) (new : List Value) : Prop where
  len : ∀ w, (Builtin.lenOf x).run P w = .ok m w
  cells : ∀ w : World, (∀ a, w.cell? a = W.cell? a) → (Builtin.firstCells size m x).run P w = .ok new.toArray w
  one : ∀ v ∈ new, v.oneCell' = true

theorem run_append_roomA {ts tx ty e : TypeId} {sz m sLen sCap : Nat} {a : Addr} {x : Value} {new : List Value} {dx : TypeDesc} (hs : P.underlying ts = some (.slice e)) (hx : P.underlying tx = some dx)
    (hdx : ∀ k, dx ≠ .int k) (hsz : sizeT P e = some sz) (S : Source P W sz m x new) (hroom : sLen + m ≤ sCap) (hst : (storeCells (a.add (sLen * sz)) new).run P W = .ok () W') :
    (Builtin.append_ #[ts, tx] ty #[.slice (some a) sLen sCap, x]).run P W = .ok (.slice (some a) (sLen + m) sCap) W' := by
  have hz : (match dx with | .int _ => true | _ => false) = false := by cases dx <;> first | rfl | exact absurd rfl (hdx _)
  unfold Builtin.append_
  simp only [List.getElem?_toArray, List.getElem?_cons_zero, List.getElem?_cons_succ, Sem.run_bind, run_underlyingA hs, run_underlyingA hx, Result.andThen_ok, run_sizeOfA hsz, Sem.run_pure, hz, Bool.false_eq_true, if_false,
    S.len, hroom, if_true, Bool.not_false, S.cells W (fun _ => rfl)]
  simp [hst]

theorem run_append_growA {ts tx ty e : TypeId} {sz bytes m sLen sCap : Nat} {base : Option Addr} {x z : Value} {old new : List Value} {dx : TypeDesc} {i : TypeInfo} (hs : P.underlying ts = some (.slice e)) (hx : P.underlying tx = some dx)
    (hdx : ∀ k, dx ≠ .int k) (hi : P.info? e = some i) (hisz : i.size = sz) (hib : i.bytes = bytes) (hz : i.zero = some z) (S : Source P W sz m x new)
    (hold : ∀ w : World, (∀ a, w.cell? a = W.cell? a) → (Builtin.firstCells sz sLen (.slice base sLen sCap)).run P w = .ok old.toArray w)
    (hgrow : sCap < sLen + m) (hfit : (sLen + m) * bytes ≤ 140737488355328) (hb : 0 < bytes) :
    (Builtin.append_ #[ts, tx] ty #[.slice base sLen sCap, x]).run P W = .ok (.slice (some ⟨W.heap.size, 0, none⟩) (sLen + m) (grownCap W (sLen + m) sCap e))
      (W.drew.alloc (.cells (old.toArray ++ new.toArray ++ Builtin.zeroCells z.cells (grownCap W (sLen + m) sCap e - (sLen + m))) e)) := by
  have hz0 : (match dx with | .int _ => true | _ => false) = false := by cases dx <;> first | rfl | exact absurd rfl (hdx _)
  have hn : ¬ (sLen + m ≤ sCap) := by omega
  have h48 : ¬ (Builtin.nextslicecap (sLen + m) sCap * i.bytes > 2 ^ 48) := by
    have := growslice_fits (bytes := bytes) hgrow hfit
    rw [hib]
    omega
  have hsz : sizeT P e = some sz := by simp [sizeT, hi, hisz]
  have hbz : ¬ (i.bytes = 0) := by omega
  unfold Builtin.append_
  simp only [List.getElem?_toArray, List.getElem?_cons_zero, List.getElem?_cons_succ, Sem.run_bind, run_underlyingA hs, run_underlyingA hx, Result.andThen_ok, run_sizeOfA hsz, Sem.run_pure, hz0, Bool.false_eq_true, if_false,
    S.len, hn, Bool.not_false, if_true, run_typeInfoA hi, hbz, or_self, and_false, h48, run_choose, Question.forced, World.drew_eq, run_askRoom, hold W.drew (fun _ => rfl), S.cells W.drew (fun _ => rfl), run_zeroA hi hz]
  simp [newRow, grownCap]
  rfl

end
end Go.Abs
