/- What the claim's reading gives: typed data. -/
import Derived.Test.YthiogecmahdmcaaGreatDoorRqTf
import Derived.Test.YthiogecmahdmcaaGreatDoorRfxD
set_option linter.unusedVariables false
set_option linter.unusedSimpArgs false
set_option maxRecDepth 100000
namespace Go.Proofs.YthiogecmahdmcaaGreatDoor.Rq
open Go Go.Abs Go.Ty

abbrev HT := HasT Tryz.prog

theorem co2 : Tryz.prog.cellsOf 2 = 1 := by kernel_rfl
theorem co3 : Tryz.prog.cellsOf 3 = 1 := by kernel_rfl
theorem co4 : Tryz.prog.cellsOf 4 = 1 := by kernel_rfl
theorem co9 : Tryz.prog.cellsOf 9 = 1 := by kernel_rfl
theorem co22 : Tryz.prog.cellsOf 22 = 1 := by kernel_rfl
theorem co23 : Tryz.prog.cellsOf 23 = 1 := by kernel_rfl
theorem co24 : Tryz.prog.cellsOf 24 = 1 := by kernel_rfl
theorem co25 : Tryz.prog.cellsOf 25 = 1 := by kernel_rfl
theorem co26 : Tryz.prog.cellsOf 26 = 1 := by kernel_rfl
theorem co27 : Tryz.prog.cellsOf 27 = 1 := by kernel_rfl
theorem co28 : Tryz.prog.cellsOf 28 = 1 := by kernel_rfl
theorem co29 : Tryz.prog.cellsOf 29 = 1 := by kernel_rfl
theorem co42 : Tryz.prog.cellsOf 42 = 1 := by kernel_rfl
theorem co46 : Tryz.prog.cellsOf 46 = 1 := by kernel_rfl
theorem co40 : Tryz.prog.cellsOf 40 = 3 := by kernel_rfl
theorem co61 : Tryz.prog.cellsOf 61 = 5 := by kernel_rfl
theorem co54 : Tryz.prog.cellsOf 54 = 2 := by kernel_rfl
theorem co48 : Tryz.prog.cellsOf 48 = 13 := by kernel_rfl
theorem co100 : Tryz.prog.cellsOf 100 = 14 := by kernel_rfl
theorem co66 : Tryz.prog.cellsOf 66 = 3 := by kernel_rfl
theorem co70 : Tryz.prog.cellsOf 70 = 4 := by kernel_rfl
theorem co31 : Tryz.prog.cellsOf 31 = 15 := by kernel_rfl
theorem bo100 : Tryz.prog.bytesOf 100 = 184 := by kernel_rfl

theorem ht_int {t : TypeId} (ht : Tryz.prog.underlying t = some (.int .i64)) {d : Nat} {l : List AV} (h : HT d t l) : ∃ n, l = [I n] := by
  cases d with
  | zero => exact h.elim
  | succ d =>
    simp only [HT, HasT, ht] at h
    obtain ⟨n, rfl, _⟩ := h
    exact ⟨n, rfl⟩
theorem ht_bool {d : Nat} {l : List AV} (h : HT d 4 l) : ∃ b, l = [.bool b] := by
  cases d with
  | zero => exact h.elim
  | succ d =>
    simp only [HT, HasT, Tryz.underlying4] at h
    exact h
theorem ht_str {d : Nat} {l : List AV} (h : HT d 9 l) : ∃ s, l = [.str s] := by
  cases d with
  | zero => exact h.elim
  | succ d =>
    simp only [HT, HasT, Tryz.underlying9] at h
    obtain ⟨s, rfl, _⟩ := h
    exact ⟨s, rfl⟩

theorem flat_of_chunks {α : Type} {enc : α → List AV} {c : Nat} (hc : ∀ x, (enc x).length = c) : ∀ (xs : List α) (m : List AV), m.length = xs.length * c → (∀ i x, xs[i]? = some x → (m.drop (i * c)).take c = enc x) → m = xs.flatMap enc
  | [], m, hl, _ => by simpa using hl
  | x :: xs, m, hl, h => by
    have h0 := h 0 x rfl
    simp only [Nat.zero_mul, List.drop_zero] at h0
    rw [List.flatMap_cons, ← h0, ← flat_of_chunks hc xs (m.drop c) (by simp [hl, Nat.succ_mul]) (fun i y hy => by
      have := h (i + 1) y (by simpa using hy)
      rw [Nat.succ_mul, Nat.add_comm] at this
      rw [List.drop_drop]
      exact this), List.take_append_drop]

theorem ht_slice {t e : TypeId} (ht : Tryz.prog.underlying t = some (.slice e)) {sz B : Nat} (hsz : Tryz.prog.cellsOf e = sz) (hB : Tryz.prog.bytesOf e = B) {α : Type} {enc : α → List AV} {good : α → Prop} (hc : ∀ x, (enc x).length = sz) (hpos : 0 < B) {d : Nat}
    (hd : ∀ d' c, d' < d → HT d' e c → ∃ x, c = enc x ∧ good x) {l : List AV} (h : HT d t l) : ∃ s : Sl α, l = [s.av enc] ∧ s.l.length ≤ maxL ∧ s.l.length * B ≤ maxL ∧ ∀ x ∈ s.l, good x := by
  cases d with
  | zero => exact h.elim
  | succ d =>
    simp only [HT, HasT, ht, hsz, hB] at h
    rcases h with rfl | ⟨n, m, rfl, hm, hb, hn, hch⟩
    · exact ⟨⟨.nil, []⟩, rfl, Nat.zero_le _, by simp, fun x hx => by cases hx⟩
    · obtain ⟨xs, hx1, hx2⟩ := exists_list (R := fun i x => (m.drop (i * sz)).take sz = enc x ∧ good x) n (fun i hi => by
        obtain ⟨x, h1, h2⟩ := hd d _ (Nat.lt_succ_self _) (hch i hi)
        exact ⟨x, h1, h2⟩)
      have e : m = xs.flatMap enc := flat_of_chunks hc xs m (by rw [hx1, hm]) (fun i x hx => (hx2 i x hx).1)
      refine ⟨⟨.im false, xs⟩, ?_, ?_, ?_, fun x hx => ?_⟩
      · simp only [Sl.av, slN, hx1, e]
      · simp only [hx1]
        unfold maxL
        unfold reachBytes at hb
        have : n ≤ n * B := Nat.le_mul_of_pos_right _ hpos
        omega
      · simp only [hx1]
        unfold maxL
        unfold reachBytes at hb
        omega
      · obtain ⟨i, hi⟩ := List.getElem?_of_mem hx
        exact (hx2 i x hi).2


theorem ht_struct {t : TypeId} {fs : Array Field} (ht : Tryz.prog.underlying t = some (.struct fs)) {k : Nat} (hk : Tryz.prog.cellsOf t = k) {d : Nat} {l : List AV} (h : HT d t l) :
    ∃ d', d = d' + 1 ∧ l.length = k ∧ ∀ f ∈ fs.toList, HT d' f.type ((l.drop f.offset).take (Tryz.prog.cellsOf f.type)) := by
  cases d with
  | zero => exact h.elim
  | succ d =>
    simp only [HT, HasT, ht, hk] at h
    exact ⟨d, rfl, h.1, h.2⟩

theorem has_val {d : Nat} {l : List AV} (h : HT d 40 l) : ∃ v : Val, l = v.cells := by
  obtain ⟨d, rfl, hl, hf⟩ := ht_struct Tryz.underlying40 co40 h
  match l, hl with
  | [a, b, c], _ =>
    have f0 := hf _ (.head _)
    have f1 := hf _ (.tail _ (.head _))
    have f2 := hf _ (.tail _ (.tail _ (.head _)))
    simp only [co3, co2, co9, List.drop_zero, List.drop_succ_cons, List.take_succ_cons, List.take_zero] at f0 f1 f2
    obtain ⟨x, hx⟩ := ht_int Tryz.underlying3 f0
    obtain ⟨y, hy⟩ := ht_int Tryz.underlying2 f1
    obtain ⟨z, hz⟩ := ht_str f2
    simp only [List.cons.injEq, and_true] at hx hy hz
    subst hx hy hz
    exact ⟨⟨x, y, z⟩, rfl⟩

theorem has_pred {d : Nat} {l : List AV} (h : HT d 61 l) : ∃ v : Pred, l = v.cells := by
  obtain ⟨d, rfl, hl, hf⟩ := ht_struct Tryz.underlying61 co61 h
  match l, hl with
  | [a, b, c, e, g], _ =>
    have f0 := hf _ (.head _)
    have f1 := hf _ (.tail _ (.head _))
    have f2 := hf _ (.tail _ (.tail _ (.head _)))
    simp only [co3, co40, List.drop_zero, List.drop_succ_cons, List.take_succ_cons, List.take_zero] at f0 f1 f2
    obtain ⟨x, hx⟩ := ht_int Tryz.underlying3 f0
    obtain ⟨y, hy⟩ := ht_int Tryz.underlying3 f1
    obtain ⟨z, hz⟩ := has_val f2
    simp only [List.cons.injEq, and_true, Val.cells] at hx hy hz
    obtain ⟨rfl, rfl, rfl⟩ := hz
    subst hx hy
    exact ⟨⟨x, y, z⟩, rfl⟩

theorem has_key {d : Nat} {l : List AV} (h : HT d 54 l) : ∃ v : SKey, l = v.cells := by
  obtain ⟨d, rfl, hl, hf⟩ := ht_struct Tryz.underlying54 co54 h
  match l, hl with
  | [a, b], _ =>
    have f0 := hf _ (.head _)
    have f1 := hf _ (.tail _ (.head _))
    simp only [co3, co4, List.drop_zero, List.drop_succ_cons, List.take_succ_cons, List.take_zero] at f0 f1
    obtain ⟨x, hx⟩ := ht_int Tryz.underlying3 f0
    obtain ⟨y, hy⟩ := ht_bool f1
    simp only [List.cons.injEq, and_true] at hx hy
    subst hx hy
    exact ⟨⟨x, y⟩, rfl⟩

theorem bo48 : Tryz.prog.bytesOf 48 = 176 := by kernel_rfl
theorem bo3 : Tryz.prog.bytesOf 3 = 8 := by kernel_rfl
theorem bo61 : Tryz.prog.bytesOf 61 = 48 := by kernel_rfl
theorem bo66 : Tryz.prog.bytesOf 66 = 40 := by kernel_rfl
theorem bo70 : Tryz.prog.bytesOf 70 = 80 := by kernel_rfl
theorem bo54 : Tryz.prog.bytesOf 54 = 16 := by kernel_rfl
theorem bo42 : Tryz.prog.bytesOf 42 = 24 := by kernel_rfl
theorem bo40 : Tryz.prog.bytesOf 40 = 32 := by kernel_rfl
theorem bo31 : Tryz.prog.bytesOf 31 = 272 := by kernel_rfl

theorem has_xp : ∀ (n d : Nat), d < n → ∀ {l : List AV}, HT d 48 l → ∃ e : Xp, l = e.cells ∧ e.wf
  | 0, d, hn, _, _ => absurd hn (Nat.not_lt_zero _)
  | n + 1, d, hn, l, h => by
    obtain ⟨d, rfl, hl, hf⟩ := ht_struct Tryz.underlying48 co48 h
    have ihE : ∀ d' c, d' < d → HT d' 48 c → ∃ x : Xp, c = x.cells ∧ x.wf := fun d' c hd hc => has_xp n d' (by omega) hc
    have ihO : ∀ d' c, d' < d → HT d' 100 c → ∃ x : Xp × Bool, c = cellsO x ∧ x.1.wf := by
      intro d' c hd hc
      obtain ⟨d2, rfl, hl2, hf2⟩ := ht_struct Tryz.underlying100 co100 hc
      have f0 := hf2 _ (.head _)
      have f1 := hf2 _ (.tail _ (.head _))
      simp only [co48, co4, List.drop_zero] at f0 f1
      obtain ⟨x, hx, wx⟩ := ihE d2 _ (by omega) f0
      obtain ⟨b, hb⟩ := ht_bool f1
      refine ⟨(x, b), ?_, wx⟩
      have e1 : (c.drop 13).take 1 = c.drop 13 := List.take_of_length_le (by simp [hl2])
      rw [e1] at hb
      rw [cellsO, ← hx, ← hb, List.take_append_drop]
    match l, hl with
    | [a0, a1, a2, a3, a4, a5, a6, a7, a8, a9, a10, a11, a12], _ =>
      have f0 := hf _ (.head _)
      have f1 := hf _ (.tail _ (.head _))
      have f2 := hf _ (.tail _ (.tail _ (.head _)))
      have f3 := hf _ (.tail _ (.tail _ (.tail _ (.head _))))
      have f4 := hf _ (.tail _ (.tail _ (.tail _ (.tail _ (.head _)))))
      have f5 := hf _ (.tail _ (.tail _ (.tail _ (.tail _ (.tail _ (.head _))))))
      have f6 := hf _ (.tail _ (.tail _ (.tail _ (.tail _ (.tail _ (.tail _ (.head _)))))))
      have f7 := hf _ (.tail _ (.tail _ (.tail _ (.tail _ (.tail _ (.tail _ (.tail _ (.head _))))))))
      have f8 := hf _ (.tail _ (.tail _ (.tail _ (.tail _ (.tail _ (.tail _ (.tail _ (.tail _ (.head _)))))))))
      have f9 := hf _ (.tail _ (.tail _ (.tail _ (.tail _ (.tail _ (.tail _ (.tail _ (.tail _ (.tail _ (.head _))))))))))
      have f10 := hf _ (.tail _ (.tail _ (.tail _ (.tail _ (.tail _ (.tail _ (.tail _ (.tail _ (.tail _ (.tail _ (.head _)))))))))))
      simp only [co3, co40, co9, co4, co24, co46, List.drop_zero, List.drop_succ_cons, List.take_succ_cons, List.take_zero] at f0 f1 f2 f3 f4 f5 f6 f7 f8 f9 f10
      obtain ⟨k, h0⟩ := ht_int Tryz.underlying3 f0
      obtain ⟨o, h1⟩ := ht_int Tryz.underlying3 f1
      obtain ⟨v, h2⟩ := has_val f2
      obtain ⟨t, h3⟩ := ht_str f3
      obtain ⟨m, h4⟩ := ht_str f4
      obtain ⟨b, h5⟩ := ht_bool f5
      obtain ⟨aa, h6, w6, _, g6⟩ := ht_slice Tryz.underlying24 co48 bo48 Xp.len (by decide) ihE f6
      obtain ⟨ps, h7, w7, _, g7⟩ := ht_slice Tryz.underlying24 co48 bo48 Xp.len (by decide) ihE f7
      obtain ⟨os, h8, _, w8, g8⟩ := ht_slice Tryz.underlying46 co100 bo100 O_len (by decide) ihO f8
      obtain ⟨s, h9⟩ := ht_int Tryz.underlying3 f9
      obtain ⟨y, h10⟩ := ht_int Tryz.underlying3 f10
      simp only [List.cons.injEq, and_true, Val.cells] at h0 h1 h2 h3 h4 h5 h6 h7 h8 h9 h10
      obtain ⟨rfl, rfl, rfl⟩ := h2
      subst h0 h1 h3 h4 h5 h6 h7 h8 h9 h10
      refine ⟨.mk k o v t m b aa.f aa.l ps.f ps.l os.f os.l s y, ?_, Xp.wf_iff.2 ⟨w6, w7, w8, g6, g7, g8⟩⟩
      rw [Xp.cells_eq]
      rfl

theorem has_e {d : Nat} : ∀ d' c, d' < d → HT d' 48 c → ∃ x : Xp, c = x.cells ∧ x.wf := fun d' c _ h => has_xp _ d' (Nat.lt_succ_self _) h
theorem has_o {d : Nat} : ∀ d' c, d' < d → HT d' 100 c → ∃ x : Xp × Bool, c = cellsO x ∧ x.1.wf := by
  intro d' c hd hc
  obtain ⟨d2, rfl, hl2, hf2⟩ := ht_struct Tryz.underlying100 co100 hc
  have f0 := hf2 _ (.head _)
  have f1 := hf2 _ (.tail _ (.head _))
  simp only [co48, co4, List.drop_zero] at f0 f1
  obtain ⟨x, hx, wx⟩ := has_xp _ d2 (Nat.lt_succ_self _) f0
  obtain ⟨b, hb⟩ := ht_bool f1
  refine ⟨(x, b), ?_, wx⟩
  have e1 : (c.drop 13).take 1 = c.drop 13 := List.take_of_length_le (by simp [hl2])
  rw [e1] at hb
  rw [cellsO, ← hx, ← hb, List.take_append_drop]

theorem has_agg {d : Nat} : ∀ d' c, d' < d → HT d' 66 c → ∃ x : Agg, c = x.cells ∧ x.wf := by
  intro d' l _ h
  obtain ⟨d, rfl, hl, hf⟩ := ht_struct Tryz.underlying66 co66 h
  match l, hl with
  | [a0, a1, a2], _ =>
    have f0 := hf _ (.head _)
    have f1 := hf _ (.tail _ (.head _))
    have f2 := hf _ (.tail _ (.tail _ (.head _)))
    simp only [co3, co4, co24, List.drop_zero, List.drop_succ_cons, List.take_succ_cons, List.take_zero] at f0 f1 f2
    obtain ⟨k, h0⟩ := ht_int Tryz.underlying3 f0
    obtain ⟨b, h1⟩ := ht_bool f1
    obtain ⟨aa, h2, w2, _, g2⟩ := ht_slice Tryz.underlying24 co48 bo48 Xp.len (by decide) has_e f2
    simp only [List.cons.injEq, and_true] at h0 h1 h2
    subst h0 h1 h2
    exact ⟨⟨k, b, aa⟩, rfl, w2, g2⟩

theorem has_win {d : Nat} : ∀ d' c, d' < d → HT d' 70 c → ∃ x : Win, c = x.cells ∧ x.wf := by
  intro d' l _ h
  obtain ⟨d, rfl, hl, hf⟩ := ht_struct Tryz.underlying70 co70 h
  match l, hl with
  | [a0, a1, a2, a3], _ =>
    have f0 := hf _ (.head _)
    have f1 := hf _ (.tail _ (.head _))
    have f2 := hf _ (.tail _ (.tail _ (.head _)))
    have f3 := hf _ (.tail _ (.tail _ (.tail _ (.head _))))
    simp only [co3, co24, co46, List.drop_zero, List.drop_succ_cons, List.take_succ_cons, List.take_zero] at f0 f1 f2 f3
    obtain ⟨k, h0⟩ := ht_int Tryz.underlying3 f0
    obtain ⟨aa, h1, w1, _, g1⟩ := ht_slice Tryz.underlying24 co48 bo48 Xp.len (by decide) has_e f1
    obtain ⟨ps, h2, w2, _, g2⟩ := ht_slice Tryz.underlying24 co48 bo48 Xp.len (by decide) has_e f2
    obtain ⟨os, h3, _, w3, g3⟩ := ht_slice Tryz.underlying46 co100 bo100 O_len (by decide) has_o f3
    simp only [List.cons.injEq, and_true] at h0 h1 h2 h3
    subst h0 h1 h2 h3
    exact ⟨⟨k, aa, ps, os⟩, rfl, ⟨w1, g1⟩, ⟨w2, g2⟩, w3, g3⟩

theorem has_row {d : Nat} : ∀ d' c, d' < d → HT d' 42 c → ∃ x : Row, c = x.cells ∧ x.wf := by
  intro d' l _ h
  obtain ⟨s, hs, w, _, _⟩ := ht_slice (good := fun _ => True) Tryz.underlying42 co40 bo40 Val.len (by decide) (fun d' c _ h => by
    obtain ⟨v, hv⟩ := has_val h
    exact ⟨v, hv, trivial⟩) h
  exact ⟨s, hs, w⟩

theorem has_plan : ∀ (n d : Nat), d < n → ∀ {l : List AV}, HT d 31 l → ∃ p : Plan, l = p.cells ∧ p.wf
  | 0, d, hn, _, _ => absurd hn (Nat.not_lt_zero _)
  | n + 1, d, hn, l, h => by
    obtain ⟨d, rfl, hl, hf⟩ := ht_struct Tryz.underlying31 co31 h
    match l, hl with
    | [a0, a1, a2, a3, a4, a5, a6, a7, a8, a9, a10, a11, a12, a13, a14], _ =>
      have f0 := hf _ (.head _)
      have f1 := hf _ (.tail _ (.head _))
      have f2 := hf _ (.tail _ (.tail _ (.head _)))
      have f3 := hf _ (.tail _ (.tail _ (.tail _ (.head _))))
      have f4 := hf _ (.tail _ (.tail _ (.tail _ (.tail _ (.head _)))))
      have f5 := hf _ (.tail _ (.tail _ (.tail _ (.tail _ (.tail _ (.head _))))))
      have f6 := hf _ (.tail _ (.tail _ (.tail _ (.tail _ (.tail _ (.tail _ (.head _)))))))
      have f7 := hf _ (.tail _ (.tail _ (.tail _ (.tail _ (.tail _ (.tail _ (.tail _ (.head _))))))))
      have f8 := hf _ (.tail _ (.tail _ (.tail _ (.tail _ (.tail _ (.tail _ (.tail _ (.tail _ (.head _)))))))))
      have f9 := hf _ (.tail _ (.tail _ (.tail _ (.tail _ (.tail _ (.tail _ (.tail _ (.tail _ (.tail _ (.head _))))))))))
      have f10 := hf _ (.tail _ (.tail _ (.tail _ (.tail _ (.tail _ (.tail _ (.tail _ (.tail _ (.tail _ (.tail _ (.head _)))))))))))
      have f11 := hf _ (.tail _ (.tail _ (.tail _ (.tail _ (.tail _ (.tail _ (.tail _ (.tail _ (.tail _ (.tail _ (.tail _ (.head _))))))))))))
      have f12 := hf _ (.tail _ (.tail _ (.tail _ (.tail _ (.tail _ (.tail _ (.tail _ (.tail _ (.tail _ (.tail _ (.tail _ (.tail _ (.head _)))))))))))))
      have f13 := hf _ (.tail _ (.tail _ (.tail _ (.tail _ (.tail _ (.tail _ (.tail _ (.tail _ (.tail _ (.tail _ (.tail _ (.tail _ (.tail _ (.head _))))))))))))))
      have f14 := hf _ (.tail _ (.tail _ (.tail _ (.tail _ (.tail _ (.tail _ (.tail _ (.tail _ (.tail _ (.tail _ (.tail _ (.tail _ (.tail _ (.tail _ (.head _)))))))))))))))
      simp only [co3, co2, co9, co22, co23, co24, co25, co26, co27, co28, co29, List.drop_zero, List.drop_succ_cons, List.take_succ_cons, List.take_zero] at f0 f1 f2 f3 f4 f5 f6 f7 f8 f9 f10 f11 f12 f13 f14
      obtain ⟨x0, h0⟩ := ht_int Tryz.underlying3 f0
      obtain ⟨x1, h1⟩ := ht_int Tryz.underlying3 f1
      obtain ⟨x2, h2⟩ := ht_int Tryz.underlying3 f2
      obtain ⟨x3, h3⟩ := ht_str f3
      have isI : ∀ {d : Nat}, ∀ d' c, d' < d → HT d' 3 c → ∃ x : Int, c = encI x ∧ True := fun d' c _ h => by
        obtain ⟨x, hx⟩ := ht_int Tryz.underlying3 h
        exact ⟨x, hx, trivial⟩
      obtain ⟨x4, h4, w4, _, _⟩ := ht_slice Tryz.underlying22 co3 bo3 I_len (by decide) isI f4
      obtain ⟨x5, h5, w5, _, _⟩ := ht_slice (good := fun _ => True) Tryz.underlying23 co61 bo61 Pred.len (by decide) (fun d' c _ h => by
        obtain ⟨x, hx⟩ := has_pred h
        exact ⟨x, hx, trivial⟩) f5
      obtain ⟨x6, h6, w6, _, g6⟩ := ht_slice Tryz.underlying24 co48 bo48 Xp.len (by decide) has_e f6
      obtain ⟨x7, h7, w7, _, g7⟩ := ht_slice Tryz.underlying25 co66 bo66 Agg.len (by decide) has_agg f7
      obtain ⟨x8, h8, w8, _, g8⟩ := ht_slice Tryz.underlying26 co70 bo70 Win.len (by decide) has_win f8
      obtain ⟨x9, h9, w9, _, _⟩ := ht_slice (good := fun _ => True) Tryz.underlying27 co54 bo54 SKey.len (by decide) (fun d' c _ h => by
        obtain ⟨x, hx⟩ := has_key h
        exact ⟨x, hx, trivial⟩) f9
      obtain ⟨x10, h10⟩ := ht_int Tryz.underlying2 f10
      obtain ⟨x11, h11⟩ := ht_int Tryz.underlying2 f11
      obtain ⟨x12, h12, w12, _, g12⟩ := ht_slice Tryz.underlying28 co42 bo42 Row.len (by decide) has_row f12
      obtain ⟨x13, h13, w13, _, _⟩ := ht_slice Tryz.underlying22 co3 bo3 I_len (by decide) isI f13
      obtain ⟨x14, h14, w14, _, g14⟩ := ht_slice Tryz.underlying29 co31 bo31 Plan.len (by decide) (fun d' c hd hc => has_plan n d' (by omega) hc) f14
      simp only [List.cons.injEq, and_true] at h0 h1 h2 h3 h4 h5 h6 h7 h8 h9 h10 h11 h12 h13 h14
      subst h0 h1 h2 h3 h4 h5 h6 h7 h8 h9 h10 h11 h12 h13 h14
      refine ⟨.mk ⟨x0, x1, x2, x3, x4, x5, x6, x7, x8, x9, x10, x11, x12, x13⟩ x14.f x14.l, ?_, Plan.wf_iff.2 ⟨⟨w4, w5, ⟨w6, g6⟩, ⟨w7, g7⟩, ⟨w8, g8⟩, w9, ⟨w12, g12⟩, w13⟩, w14, g14⟩⟩
      rw [Plan.cells_eq]
      rfl

end Go.Proofs.YthiogecmahdmcaaGreatDoor.Rq
