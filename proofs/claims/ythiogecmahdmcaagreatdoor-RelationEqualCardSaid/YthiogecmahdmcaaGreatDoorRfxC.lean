/- Operations that read the heap. -/
import Derived.Test.YthiogecmahdmcaaGreatDoorRfxP6
import Derived.Lib.Builder
import Derived.Laws.BytesString
import Derived.LaidEqlPtr
set_option linter.unusedVariables false
set_option linter.unusedSimpArgs false
namespace Go.Abs
open Go.RowKit

section
variable {P : Program} {Γ : Ctx} {W : World}

theorem BlkOk.lies {B : Nat} {k : Blk} {q : Geo} (ok : BlkOk Γ W B k q) (off : Nat) :
    LiesAt Γ W (k.cells.drop off) ⟨q.blk, q.base + off, none⟩ (fun i => (W.cell? ⟨q.blk, q.base + off + i, none⟩).getD undef) := by
  intro i x hx
  rw [List.getElem?_drop] at hx
  obtain ⟨h1, v, hv, hr⟩ := ok.cell hx
  rw [← Nat.add_assoc] at hv
  refine ⟨h1, ?_, ?_⟩
  · rw [add_eq rfl]
    simp [hv]
  · simp only [hv, Option.getD_some]
    exact hr

theorem imm_lies {l : List AV} {a : Addr} {vs : Nat → Value} (h1 : ∀ (i : Nat) x, l[i]? = some x → c1 x = true ∧ a.spot = none ∧ Γ.G a.block (a.off + i) ∧ W.cell? ⟨a.block, a.off + i, none⟩ = some (vs i))
    (h2 : ∀ (i : Nat) x, l[i]? = some x → RepC W Γ.G x (vs i)) : LiesAt Γ W l a vs := fun i x hx => by
  obtain ⟨e1, e2, e3, e4⟩ := h1 i x hx
  exact ⟨one_of_c1 e1, by rw [add_eq e2]; exact e4, .cl _ _ (h2 i x hx)⟩

theorem LiesAt.take {l : List AV} {a : Addr} {vs : Nat → Value} (h : LiesAt Γ W l a vs) (n : Nat) : LiesAt Γ W (l.take n) a vs := by
  intro i x hx
  rw [List.getElem?_take] at hx
  split at hx
  · exact h i x hx
  · cases hx

/-- The cells of such a list, loaded. -/
theorem LiesAt.load {l : List AV} {a : Addr} {vs : Nat → Value} (h : LiesAt Γ W l a vs) :
    ∃ ws : List Value, (loadCells a l.length).run P W = .ok ws.toArray W ∧ Cells Γ W l ws := by
  refine ⟨(List.range l.length).map vs, ?_, ?_⟩
  · unfold loadCells
    rw [run_loadCellsA (vs := vs) l.length 0 #[] (fun j hj => by rw [Nat.zero_add]; exact (h j l[j] (List.getElem?_eq_getElem hj)).2.1)]
    simp
  · refine ⟨by simp, fun i x hx => (h i x hx).1, fun i x y hx hy => ?_⟩
    have hi : i < l.length := (List.getElem?_eq_some_iff.1 hx).1
    rw [List.getElem?_map, List.getElem?_range hi] at hy
    simp at hy
    subst hy
    exact (h i x hx).2.2

theorem bytesA_spec : ∀ {l : List AV} {bs : List UInt8}, bytesA l = some bs → ∃ ns : List Int, l = ns.map (AV.int .u8) ∧ bs = ns.map (fun n => UInt8.ofNat n.toNat)
  | [], bs, h => by
    simp only [bytesA, Option.some.injEq] at h
    subst h
    exact ⟨[], rfl, rfl⟩
  | x :: l, bs, h => by
    unfold bytesA at h
    split at h
    · rename_i heq
      cases heq
    · rename_i n r heq
      injection heq with e1 e2
      subst e1 e2
      split at h
      · rename_i bs' hb
        injection h with h
        subst h
        obtain ⟨ns, rfl, rfl⟩ := bytesA_spec hb
        exact ⟨n :: ns, rfl, rfl⟩
      · cases h
    · cases h

theorem Cells.nums {ns : List Int} {ws : List Value} (h : Cells Γ W (ns.map (AV.int .u8)) ws) : ws = ns.map (Value.int .u8) := by
  apply List.ext_getElem?
  intro i
  by_cases hi : i < ns.length
  · have hw : i < ws.length := by rw [h.len]; simpa using hi
    have := h.rep i (.int .u8 ns[i]) ws[i] (by simp [hi]) (List.getElem?_eq_getElem hw)
    rw [List.getElem?_eq_getElem hw, rep_int this]
    simp [hi]
  · have hw : ¬ i < ws.length := by rw [h.len]; simpa using hi
    simp [hi]
    omega

/-- What 'elemsA' shows of a slice that is not nil. -/
theorem elems_imm {B : Nat} {h : Heap} {t : Bool} {n sz m : Nat} {l xs : List AV} {v : Value} (he : elemsA h sz (.imm t n l) = some (m, xs)) (hv : Rep Γ W (.imm t n l) v) :
    ∃ a cap vs, v = .slice (some a) n cap ∧ m = n ∧ xs.length = n * sz ∧ LiesAt Γ W xs a vs := by
  simp only [elemsA] at he
  split at he
  · rename_i hle
    simp only [Option.some.injEq, Prod.mk.injEq] at he
    obtain ⟨rfl, rfl⟩ := he
    obtain ⟨a, cap, vs, rfl, _, _, h1, h2⟩ := rep_imm hv
    exact ⟨a, cap, vs, rfl, rfl, by simp [hle], (imm_lies h1 h2).take _⟩
  · cases he

theorem elems_own {B : Nat} {h : Heap} (H : HeapRel Γ W B h) {b ver off n sz' sz m : Nat} {xs : List AV} {v : Value} (he : elemsA h sz (.own b ver off n sz') = some (m, xs)) (hv : Rep Γ W (.own b ver off n sz') v) :
    ∃ a cap vs, v = .slice (some a) n cap ∧ m = n ∧ xs.length = n * sz ∧ LiesAt Γ W xs a vs := by
  simp only [elemsA] at he
  split at he
  · rename_i k hk
    split at he
    · rename_i hle
      simp only [Option.some.injEq, Prod.mk.injEq] at he
      obtain ⟨rfl, rfl⟩ := he
      obtain ⟨q, hq, hver, ok⟩ := H.get hk
      obtain ⟨a, cap, rfl, _, _, hg⟩ := rep_own hv
      obtain ⟨e1, _⟩ := (hg q hq).2 hver
      subst e1
      exact ⟨_, cap, _, rfl, rfl, by simp; omega, (ok.lies off).take _⟩
    · cases he
  · cases he

theorem run_bytesA {xs : List AV} {bs : List UInt8} {a : Addr} {vs : Nat → Value} {n cap : Nat} (hb : bytesA xs = some bs) (hl : LiesAt Γ W xs a vs) (hn : xs.length = n) :
    (Conv.bytesToString (.slice (some a) n cap)).run P W = .ok (.string ⟨bs.toArray⟩) W := by
  obtain ⟨ws, h1, h2⟩ := hl.load (P := P)
  obtain ⟨ns, rfl, rfl⟩ := bytesA_spec hb
  rw [h2.nums, hn] at h1
  rw [run_bytesToString W a n cap ns h1]
  congr 2
  have : ∀ (ns : List Int) (s : ByteArray), ns.foldl (fun r n => r.push (UInt8.ofNat n.toNat)) s = ⟨(s.data.toList ++ ns.map fun n => UInt8.ofNat n.toNat).toArray⟩ := by
    intro ns
    induction ns with
    | nil => intro s; simp
    | cons x ns ih =>
      intro s
      rw [List.foldl_cons, ih]
      simp [ByteArray.push]
  rw [this]
  rfl

theorem run_eqPtr {t elem : TypeId} {n D blk o1 o2 : Nat} (hu : P.underlying t = some (.pointer elem)) (hn : sizeT P elem = some n) (hn0 : n ≠ 0) :
    (Op.equalIn (D + 1) t (.pointer (some ⟨blk, o1, none⟩)) (.pointer (some ⟨blk, o2, none⟩))).run P W = .ok (decide (o1 = o2)) W := by
  have hs : (sameAddr ⟨blk, o1, none⟩ ⟨blk, o2, none⟩).run P W = .ok (decide (o1 = o2)) W := by
    have : ((⟨blk, o1, none⟩ : Addr) == ⟨blk, o2, none⟩) = decide (o1 = o2) := by
      rw [Bool.eq_iff_iff]
      simp
    simp [sameAddr, this]
  simp only [Op.equalIn, Sem.run_bind, run_underlyingA hu, Result.andThen_ok, run_sizeOfA hn]
  rw [if_pos hn0]
  exact hs

theorem run_eqGuardPtr {op : BinOp} {t : TypeId} {x y : Operand} {a b : Option Addr} : (eqGuard op t x y (.pointer a) (.pointer b)).run P W = .ok () W := by
  cases op <;> simp [eqGuard]

theorem opC_rep {B : Nat} {h : Heap} {T : List AV} {a : Act} {o : Oper} {v : AV} (R : ActRel Γ W T a) (H : HeapRel Γ W B h) (hop : opC P (evA T) h o.op = some v) :
    ∃ v', (execOp a.eval o).run P W = .ok (.value v') W ∧ Rep Γ W v v' := by
  obtain ⟨dst, op, type, pos, after, guard⟩ := o
  simp only at hop
  unfold opC at hop
  split at hop
  · -- load
    rename_i t x
    split at hop
    · rename_i b ver off hx
      split at hop
      · rename_i k hk
        obtain ⟨q, hq, hver, ok⟩ := H.get hk
        obtain ⟨ad, he, _, hg⟩ := rep_ptr (evA_rep R hx)
        have e1 := (hg q hq).2 hver
        subst e1
        obtain ⟨v', hr, hv⟩ := loadL_rep hop (ok.lies off)
        exact ⟨v', by simp [execOp, Instr.loadAt, he, Instr.sureAddr, hr], hv⟩
      · cases hop
    · cases hop
  · -- slice of an array
    rename_i t x lo hi
    split at hop
    · rename_i n elem b ver off hu hx
      split at hop
      · rename_i k sz hk hsz
        split at hop
        · rename_i hcond
          split at hop
          · cases hop
          · rename_i h' hh
            split at hop
            · cases hop
            · rename_i l hl
              split at hop
              · rename_i hlt
                injection hop with hop
                subst hop
                obtain ⟨q, hq, hver, ok⟩ := H.get hk
                obtain ⟨ad, he, hb, hg⟩ := rep_ptr (evA_rep R hx)
                have e1 := (hg q hq).2 hver
                subst e1
                have hle : h' ≤ n := bound_le hh (Nat.le_refl _)
                have e := run_boundsA (P := P) hh hl (optO_rep R lo) (optO_rep R hi) (Nat.le_refl n) false
                refine ⟨.slice (some ((⟨q.blk, q.base + off, none⟩ : Addr).add (l * sz))) (h' - l) (n - l), ?_, .own _ _ _ _ _ _ _ hb (by omega) (fun q' hq' => ?_)⟩
                · simp only [execOp, Instr.sliceAt, Sem.run_bind, run_underlyingA hu, Result.andThen_ok, he, Instr.sureAddr, Sem.run_pure, Option.map_none, e, run_sizeOfA hsz]
                  rw [if_neg (by omega)]
                · rw [hq] at hq'
                  injection hq' with hq'
                  subst hq'
                  refine ⟨by omega, fun _ => ?_⟩
                  have hlen := ok.len
                  have hroom := ok.room
                  have hmul : n * sz = l * sz + (n - l) * sz := by rw [← Nat.add_mul]; congr 1; omega
                  rw [add_eq rfl]
                  refine ⟨by simp [hcond.1], by omega, by omega⟩
              · cases hop
        · cases hop
      · cases hop
    · cases hop
  · -- convert
    rename_i src dst' x
    split at hop
    · rename_i el p hu1 hu2 hx
      have hr := evA_rep R hx
      split at hop
      · rename_i hu
        injection hop with hop
        subst hop
        have he := rep_nilsl hr
        refine ⟨.string ByteArray.empty, ?_, .cl _ _ (.str _)⟩
        simp [execOp, convert, run_underlyingA hu1, run_underlyingA hu2, he, run_underlyingA hu, Conv.bytesToString]
      · rename_i t n l hu
        split at hop
        · rename_i m xs hel
          split at hop
          · rename_i bs hbs
            injection hop with hop
            subst hop
            obtain ⟨ad, cap, vs, he, rfl, hlen, hl⟩ := elems_imm (B := B) hel hr
            refine ⟨.string ⟨bs.toArray⟩, ?_, .cl _ _ (.str _)⟩
            simp only [execOp, convert, Sem.run_bind, run_underlyingA hu1, run_underlyingA hu2, he, run_underlyingA hu, Result.andThen_ok, run_bytesA hbs hl (by simpa using hlen), Sem.run_pure]
          · cases hop
        · cases hop
      · rename_i b ver off n sz hu
        split at hop
        · rename_i m xs hel
          split at hop
          · rename_i bs hbs
            injection hop with hop
            subst hop
            obtain ⟨ad, cap, vs, he, rfl, hlen, hl⟩ := elems_own H hel hr
            refine ⟨.string ⟨bs.toArray⟩, ?_, .cl _ _ (.str _)⟩
            simp only [execOp, convert, Sem.run_bind, run_underlyingA hu1, run_underlyingA hu2, he, run_underlyingA hu, Result.andThen_ok, run_bytesA hbs hl (by simpa using hlen), Sem.run_pure]
          · cases hop
        · cases hop
      · cases hop
    · rename_i t b ver off hu1 hu2 hx
      split at hop
      · rename_i k n hk hn
        split at hop
        · cases hop
        · rename_i hcond
          injection hop with hop
          subst hop
          obtain ⟨q, hq, hver, ok⟩ := H.get hk
          have hr := evA_rep R hx
          obtain ⟨ad, he, _, hg⟩ := rep_ptr hr
          have e1 := (hg q hq).2 hver
          subst e1
          obtain ⟨c, fz, hc, hcs, _⟩ := ok.ex
          unfold sizeT at hn
          rw [Option.map_eq_some_iff] at hn
          obtain ⟨i, hi, rfl⟩ := hn
          have hlen := ok.len
          have hroom := ok.room
          have := Lib.run_to_unsafe W (cells := c.size) (e := k.el) ⟨q.blk, q.base + off, none⟩ hu1 hu2 hi (by omega) (by simp [World.shape?, hc]) (by simp; omega)
          exact ⟨a.eval x, by simp [execOp, he, this], hr⟩
      · cases hop
    · rename_i u b ver off hu1 hu2 hx
      split at hop
      · rename_i k n hk hn
        split at hop
        · rename_i hcond
          injection hop with hop
          subst hop
          obtain ⟨q, hq, hver, ok⟩ := H.get hk
          have hr := evA_rep R hx
          obtain ⟨ad, he, _, hg⟩ := rep_ptr hr
          have e1 := (hg q hq).2 hver
          subst e1
          obtain ⟨c, fz, hc, hcs, _⟩ := ok.ex
          unfold sizeT at hn
          rw [Option.map_eq_some_iff] at hn
          obtain ⟨i, hi, rfl⟩ := hn
          obtain ⟨ht1, ht2⟩ := ok.tight hcond.2.1
          have hlies := hcond.2.2
          rw [← ok.len, ← ht2, ← hcs] at hlies
          have := Lib.run_from_unsafe W (cells := c.size) (e := k.el) ⟨q.blk, q.base + off, none⟩ hu1 hu2 hi (by simp [World.shape?, hc]) (by simpa [ht1] using hlies)
          exact ⟨a.eval x, by simp [execOp, he, this], hr⟩
        · cases hop
      · cases hop
    · cases hop
  · -- pointers held against each other
    rename_i bop t x y yt
    split at hop
    · rename_i elem b ver off b' ver' off' hu hx hy
      split at hop
      · rename_i k n hk hn
        split at hop
        · rename_i hcond
          injection hop with hop
          subst hop
          obtain ⟨hn0, rfl, rfl⟩ := hcond
          obtain ⟨q, hq, hver, ok⟩ := H.get hk
          obtain ⟨ad, he, _, hg⟩ := rep_ptr (evA_rep R hx)
          have e1 := (hg q hq).2 hver
          subst e1
          obtain ⟨ad', he', _, hg'⟩ := rep_ptr (evA_rep R hy)
          have e1 := (hg' q hq).2 hver
          subst e1
          refine ⟨.bool (off == off'), ?_, .cl _ _ (.bool _)⟩
          have e2 : (Op.equalIn 10000 t (.pointer (some ⟨q.blk, q.base + off, none⟩)) (.pointer (some ⟨q.blk, q.base + off', none⟩))).run P W = .ok (off == off') W := by
            rw [run_eqPtr (D := 9999) hu hn hn0]
            congr 1
            rw [Bool.eq_iff_iff]
            simp
          have e3 := binOp_eql e2 (fun k a k' b e => by cases e) (fun a b e => by cases e) (he ▸ evA_rep R hx) (he' ▸ evA_rep R hy) (fun e => by cases e)
          simp only [execOp, Sem.run_bind, he, he', run_eqGuardPtr, Result.andThen_ok, e3, Sem.run_pure]
        · cases hop
      · cases hop
    · rename_i elem b ver off b' ver' off' hu hx hy
      split at hop
      · rename_i k n hk hn
        split at hop
        · rename_i hcond
          injection hop with hop
          subst hop
          obtain ⟨hn0, rfl, rfl⟩ := hcond
          obtain ⟨q, hq, hver, ok⟩ := H.get hk
          obtain ⟨ad, he, _, hg⟩ := rep_ptr (evA_rep R hx)
          have e1 := (hg q hq).2 hver
          subst e1
          obtain ⟨ad', he', _, hg'⟩ := rep_ptr (evA_rep R hy)
          have e1 := (hg' q hq).2 hver
          subst e1
          refine ⟨.bool (!(off == off')), ?_, .cl _ _ (.bool _)⟩
          have e2 : (Op.equalIn 10000 t (.pointer (some ⟨q.blk, q.base + off, none⟩)) (.pointer (some ⟨q.blk, q.base + off', none⟩))).run P W = .ok (off == off') W := by
            rw [run_eqPtr (D := 9999) hu hn hn0]
            congr 1
            rw [Bool.eq_iff_iff]
            simp
          have e3 := binOp_neq e2 (fun k a k' b e => by cases e) (fun a b e => by cases e) (he ▸ evA_rep R hx) (he' ▸ evA_rep R hy) (fun e => by cases e)
          simp only [execOp, Sem.run_bind, he, he', run_eqGuardPtr, Result.andThen_ok, e3, Sem.run_pure]
        · cases hop
      · cases hop
    · cases hop
  · cases hop
end
end Go.Abs
