/- The collector: blocks that nobody names are forgotten, the others of this run are numbered anew. -/
import Derived.Test.YthiogecmahdmcaaGreatDoorRfxP1
set_option linter.unusedVariables false
set_option linter.unusedSimpArgs false
namespace Go.Abs

section
variable {Γ Γ0 : Ctx} {W W0 : World} {B m : Nat} {h : Heap} {ids : List Nat}

def renCtx (Γ : Ctx) (m : Nat) (ids : List Nat) : Ctx :=
  ⟨Γ.B, m + ids.length, fun b => (b < m ∧ Γ.born b) ∨ (m ≤ b ∧ ∃ b0, ids[b - m]? = some b0 ∧ Γ.born b0),
    fun b => if b < m then Γ.g b else match ids[b - m]? with
      | some b0 => (Γ.g b0).map fun q => ⟨0, q.len, q.blk, q.base, q.csz⟩
      | none => none, Γ.G⟩

theorem posA_spec : ∀ {l : List Nat} {j b i : Nat}, posA j l b = some i → j ≤ i ∧ l[i - j]? = some b
  | [], j, b, i, h => by cases h
  | x :: l, j, b, i, h => by
    simp only [posA] at h
    split at h
    · rename_i hx
      injection h with h
      subst h hx
      exact ⟨Nat.le_refl _, by simp⟩
    · obtain ⟨h1, h2⟩ := posA_spec h
      refine ⟨by omega, ?_⟩
      rw [show i - j = (i - (j + 1)) + 1 from by omega, List.getElem?_cons_succ]
      exact h2

theorem rhoA_spec {b v b' v' : Nat} (hr : rhoA h m ids b v = some (b', v')) :
    (b < m ∧ b' = b ∧ v' = v) ∨ (m ≤ b ∧ m ≤ b' ∧ ids[b' - m]? = some b ∧ v' = 0 ∧ ∃ k, hget h b v = some k) := by
  unfold rhoA at hr
  split at hr
  · rename_i hb
    simp only [Option.some.injEq, Prod.mk.injEq] at hr
    exact .inl ⟨hb, hr.1.symm, hr.2.symm⟩
  · rename_i hb
    split at hr
    · cases hr
    · rename_i k hk
      split at hr
      · rename_i j hj
        simp only [Option.some.injEq, Prod.mk.injEq] at hr
        obtain ⟨rfl, rfl⟩ := hr
        obtain ⟨h1, h2⟩ := posA_spec hj
        exact .inr ⟨by omega, h1, h2, rfl, k, hk⟩
      · cases hr

theorem ren_born (H : HeapRel Γ W B h) {b v b' v' : Nat} (hr : rhoA h m ids b v = some (b', v')) (hb : Γ.born b) : (renCtx Γ m ids).born b' := by
  rcases rhoA_spec hr with ⟨h1, rfl, rfl⟩ | ⟨h1, h2, h3, rfl, k, hk⟩
  · exact .inl ⟨h1, hb⟩
  · exact .inr ⟨h2, b, h3, hb⟩

/-- Where a block that is named lies, behind the numbering and before it. -/
theorem ren_g (H : HeapRel Γ W B h) {b v b' v' : Nat} (hr : rhoA h m ids b v = some (b', v')) {q' : Geo} (hq : (renCtx Γ m ids).g b' = some q') :
    ∃ q, Γ.g b = some q ∧ (v ≤ q.ver → v' ≤ q'.ver) ∧ (q'.ver = v' → q.ver = v) ∧ q.blk = q'.blk ∧ q.base = q'.base ∧ q.len = q'.len ∧ q.csz = q'.csz := by
  rcases rhoA_spec hr with ⟨h1, rfl, rfl⟩ | ⟨h1, h2, h3, rfl, k, hk⟩
  · simp only [renCtx, h1, if_true] at hq
    exact ⟨q', hq, fun h => h, fun h => h, rfl, rfl, rfl, rfl⟩
  · have hn : ¬ b' < m := by omega
    simp only [renCtx, hn, if_false, h3, Option.map_eq_some_iff] at hq
    obtain ⟨q, hq, rfl⟩ := hq
    obtain ⟨q2, g1, g2, _⟩ := H.get hk
    rw [hq] at g1
    injection g1 with g1
    subst g1
    exact ⟨q, hq, fun _ => Nat.zero_le _, fun _ => g2, rfl, rfl, rfl, rfl⟩

theorem ren0_rep (H : HeapRel Γ W B h) {x x' : AV} {v : Value} (hx : ren0 (rhoA h m ids) x = some x') (hr : Rep Γ W x v) : Rep (renCtx Γ m ids) W x' v := by
  have cl : (if c1 x then some x else none) = some x' → Rep (renCtx Γ m ids) W x' v := by
    intro h
    split at h
    · rename_i hc
      injection h with h
      subst h
      exact .cl _ _ (hr.toC1 hc)
    · cases h
  cases x with
  | own b ver off n sz =>
    simp only [ren0] at hx
    split at hx
    · rename_i b' v' hρ
      injection hx with hx
      subst hx
      obtain ⟨a, cap, rfl, h1, h2, h3⟩ := rep_own hr
      refine .own _ _ _ _ _ _ _ (ren_born H hρ h1) h2 (fun q' hq' => ?_)
      obtain ⟨q, g1, g2, g3, e1, e2, e3, e4⟩ := ren_g H hρ hq'
      obtain ⟨k1, k2⟩ := h3 q g1
      refine ⟨g2 k1, fun hv => ?_⟩
      rw [← e1, ← e2, ← e3, ← e4]
      exact k2 (g3 hv)
    · cases hx
  | ptr b ver off =>
    simp only [ren0] at hx
    split at hx
    · rename_i b' v' hρ
      injection hx with hx
      subst hx
      obtain ⟨a, rfl, h1, h3⟩ := rep_ptr hr
      refine .ptr _ _ _ _ (ren_born H hρ h1) (fun q' hq' => ?_)
      obtain ⟨q, g1, g2, g3, e1, e2, e3, e4⟩ := ren_g H hρ hq'
      obtain ⟨k1, k2⟩ := h3 q g1
      refine ⟨g2 k1, fun hv => ?_⟩
      rw [← e1, ← e2]
      exact k2 (g3 hv)
    · cases hx
  | _ => exact cl hx

theorem ren0_one {ρ : Nat → Nat → Option (Nat × Nat)} {x x' : AV} (hx : ren0 ρ x = some x') : one x' = true := by
  have cl : (if c1 x then some x else none) = some x' → one x' = true := by
    intro h
    split at h
    · rename_i hc
      injection h with h
      subst h
      exact one_of_c1 hc
    · cases h
  cases x with
  | own b ver off n sz =>
    simp only [ren0] at hx
    split at hx
    · injection hx with hx
      subst hx
      rfl
    · cases hx
  | ptr b ver off =>
    simp only [ren0] at hx
    split at hx
    · injection hx with hx
      subst hx
      rfl
    · cases hx
  | _ => exact cl hx

theorem ren1_one {ρ : Nat → Nat → Option (Nat × Nat)} {x x' : AV} (hx : ren1 ρ x = some x') : one x' = true := by
  cases x with
  | fn f caps =>
    simp only [ren1] at hx
    split at hx
    · injection hx with hx
      subst hx
      rfl
    · cases hx
  | _ => simp only [ren1] at hx; exact ren0_one hx

theorem mapO_back {α β : Type} {f : α → Option β} : ∀ {l : List α} {ys : List β}, mapO f l = some ys → ys.length = l.length ∧ (∀ (i : Nat) y, ys[i]? = some y → ∃ x, l[i]? = some x ∧ f x = some y)
  | [], ys, h => by
    simp only [mapO, Option.some.injEq] at h
    subst h
    exact ⟨rfl, fun i y hy => by simp at hy⟩
  | a :: l, ys, h => by
    simp only [mapO] at h
    split at h
    · cases h
    · rename_i y hy
      split at h
      · cases h
      · rename_i zs hz
        injection h with h
        subst h
        obtain ⟨h1, h2⟩ := mapO_back hz
        refine ⟨by simp [h1], fun i y' hy' => ?_⟩
        cases i with
        | zero =>
          simp at hy'
          subst hy'
          exact ⟨a, rfl, hy⟩
        | succ i => exact h2 i y' (by simpa using hy')

theorem ren1_rep (H : HeapRel Γ W B h) {x x' : AV} {v : Value} (hx : ren1 (rhoA h m ids) x = some x') (hr : Rep Γ W x v) : Rep (renCtx Γ m ids) W x' v := by
  cases x with
  | fn f caps =>
    simp only [ren1] at hx
    split at hx
    · rename_i l hl
      injection hx with hx
      subst hx
      obtain ⟨ws, rfl, h1, h2⟩ := rep_fn hr
      obtain ⟨g1, g2⟩ := mapO_back hl
      refine .fn f l ws (by rw [g1]; exact h1) (fun i y w hy hw => ?_)
      obtain ⟨x, hx, hxy⟩ := g2 i y hy
      exact ren0_rep H hxy (h2 i x w hx hw)
    · cases hx
  | _ => simp only [ren1] at hx; exact ren0_rep H hx hr

theorem renV_rep (H : HeapRel Γ W B h) {x x' : AV} {v : Value} (hx : renV (rhoA h m ids) x = some x') (hr : Rep Γ W x v) : Rep (renCtx Γ m ids) W x' v := by
  cases x with
  | agg l =>
    simp only [renV] at hx
    split at hx
    · rename_i l' hl
      injection hx with hx
      subst hx
      obtain ⟨ws, rfl, h1, h2, h3⟩ := rep_agg hr
      obtain ⟨g1, g2⟩ := mapO_back hl
      refine .agg l' ws (by rw [g1]; exact h1) (fun i y hy => ?_) (fun i y w hy hw => ?_)
      · obtain ⟨x, hx, hxy⟩ := g2 i y hy
        exact ren1_one hxy
      · obtain ⟨x, hx, hxy⟩ := g2 i y hy
        exact ren1_rep H hxy (h3 i x w hx hw)
    · cases hx
  | tup l =>
    simp only [renV] at hx
    split at hx
    · rename_i l' hl
      injection hx with hx
      subst hx
      obtain ⟨ws, rfl, h1, h3⟩ := rep_tup hr
      obtain ⟨g1, g2⟩ := mapO_back hl
      refine .tup l' ws (by rw [g1]; exact h1) (fun i y w hy hw => ?_)
      obtain ⟨x, hx, hxy⟩ := g2 i y hy
      exact ren1_rep H hxy (h3 i x w hx hw)
    · cases hx
  | any =>
    simp only [renV, Option.some.injEq] at hx
    subst hx
    exact .any v
  | _ => simp only [renV] at hx; exact ren1_rep H hx hr

theorem distinctA_spec : ∀ {l : List Nat}, distinctA l = true → ∀ (i j : Nat) b, l[i]? = some b → l[j]? = some b → i = j
  | [], _, i, j, b, hi, _ => by simp at hi
  | x :: l, hd, i, j, b, hi, hj => by
    simp only [distinctA, Bool.and_eq_true, Bool.not_eq_true'] at hd
    have hx : ∀ (i : Nat), l[i]? = some x → False := by
      intro i hi
      have := List.mem_of_getElem? hi
      have h1 := hd.1
      simp [this] at h1
    cases i with
    | zero =>
      simp at hi
      subst hi
      cases j with
      | zero => rfl
      | succ j => exact (hx j (by simpa using hj)).elim
    | succ i =>
      cases j with
      | zero =>
        simp at hj
        subst hj
        exact (hx i (by simpa using hi)).elim
      | succ j =>
        have := distinctA_spec hd.2 i j b (by simpa using hi) (by simpa using hj)
        omega

/-- One block, numbered anew. -/
theorem ren_blk (H : HeapRel Γ W B h) {k : Blk} {l : List AV} {q : Geo} {v : Nat} (hl : mapO (ren1 (rhoA h m ids)) k.cells = some l) (ok : BlkOk Γ W B k q) :
    BlkOk (renCtx Γ m ids) W B ⟨v, k.fr, k.el, k.ex, false, l⟩ ⟨v, q.len, q.blk, q.base, q.csz⟩ := by
  obtain ⟨g1, g2⟩ := mapO_back hl
  obtain ⟨c, fz, e1, e2, e3, e4⟩ := ok.ex
  refine ⟨rfl, by rw [g1]; exact ok.len, ok.lo, ⟨c, fz, e1, e2, e3, fun i y hy => ?_⟩, ok.room, ok.tight, ok.free⟩
  obtain ⟨x, hx, hxy⟩ := g2 i y hy
  obtain ⟨a1, u, a2, a3⟩ := e4 i x hx
  exact ⟨ren1_one hxy, u, a2, ren1_rep H hxy a3⟩

theorem ren_heap (H : HeapRel Γ W B h) {h1 h2 : Heap} (hh1 : mapO (renB (rhoA h m ids)) (h.take m) = some h1) (hh2 : mapO (keepB h (rhoA h m ids)) ids = some h2)
    (hd : distinctA ids = true) (hge : ∀ b ∈ ids, m ≤ b) (hm : m ≤ h.length) : HeapRel (renCtx Γ m ids) W B (h1 ++ h2) := by
  obtain ⟨l1, p1⟩ := mapO_back hh1
  obtain ⟨l2, p2⟩ := mapO_back hh2
  have hl1 : h1.length = m := by rw [l1, List.length_take]; omega
  have lo : ∀ (b : Nat) (k : Blk), (h1 ++ h2)[b]? = some k → b < m → ∃ k0, h[b]? = some k0 ∧ renB (rhoA h m ids) k0 = some k := by
    intro b k hk hb
    rw [List.getElem?_append_left (by omega)] at hk
    obtain ⟨k0, h0, h3⟩ := p1 b k hk
    rw [List.getElem?_take, if_pos hb] at h0
    exact ⟨k0, h0, h3⟩
  have hi : ∀ (b : Nat) (k : Blk), (h1 ++ h2)[b]? = some k → ¬ b < m → ∃ b0, ids[b - m]? = some b0 ∧ keepB h (rhoA h m ids) b0 = some k := by
    intro b k hk hb
    rw [List.getElem?_append_right (by omega), hl1] at hk
    exact p2 _ k hk
  have renB_spec : ∀ {k0 k : Blk}, renB (rhoA h m ids) k0 = some k → (k0.dead = true ∧ k = k0) ∨ (k0.dead = false ∧ ∃ l, mapO (ren1 (rhoA h m ids)) k0.cells = some l ∧ k = ⟨k0.ver, k0.fr, k0.el, k0.ex, false, l⟩) := by
    intro k0 k hk
    unfold renB at hk
    split at hk
    · rename_i hdd
      injection hk with hk
      exact .inl ⟨hdd, hk.symm⟩
    · rename_i hdd
      split at hk
      · rename_i l hl
        injection hk with hk
        have hdf : k0.dead = false := by simpa using hdd
        exact .inr ⟨hdf, l, hl, by rw [← hk, hdf]⟩
      · cases hk
  have keepB_spec : ∀ {b0 : Nat} {k : Blk}, keepB h (rhoA h m ids) b0 = some k → ∃ k0 l, h[b0]? = some k0 ∧ k0.dead = false ∧ mapO (ren1 (rhoA h m ids)) k0.cells = some l ∧ k = ⟨0, k0.fr, k0.el, k0.ex, false, l⟩ := by
    intro b0 k hk
    unfold keepB at hk
    split at hk
    · rename_i k0 hk0
      split at hk
      · cases hk
      · rename_i hdd
        split at hk
        · rename_i l hl
          injection hk with hk
          exact ⟨k0, l, hk0, by simpa using hdd, hl, hk.symm⟩
        · cases hk
    · cases hk
  refine ⟨H.eB, by simp [renCtx, hl1, l2], fun b hb => ?_, fun b k hk hdd hf hb => ?_, fun b k hk hdd => ?_, fun b q hq => ?_, fun b b' q q' hq hq' hbl => ?_, H.G⟩
  · rw [List.length_append, hl1, l2]
    rcases hb with ⟨hb, _⟩ | ⟨hb, b0, h0, _⟩
    · omega
    · have := (List.getElem?_eq_some_iff.1 h0).1
      omega
  · by_cases hbm : b < m
    · obtain ⟨k0, h0, h3⟩ := lo b k hk hbm
      rcases renB_spec h3 with ⟨d1, rfl⟩ | ⟨d1, l, _, rfl⟩
      · rcases hb with ⟨_, hb⟩ | ⟨hb, _⟩
        · exact H.ub b k h0 hdd hf hb
        · omega
      · cases hdd
    · obtain ⟨b0, _, h3⟩ := hi b k hk hbm
      obtain ⟨k0, l, _, _, _, rfl⟩ := keepB_spec h3
      cases hdd
  · by_cases hbm : b < m
    · obtain ⟨k0, h0, h3⟩ := lo b k hk hbm
      rcases renB_spec h3 with ⟨d1, rfl⟩ | ⟨d1, l, hl, rfl⟩
      · rw [hdd] at d1
        cases d1
      · obtain ⟨q, hq, ok⟩ := H.blk b k0 h0 d1
        refine ⟨q, by simp [renCtx, hbm, hq], ?_⟩
        have := ren_blk (v := k0.ver) H hl ok
        rw [← ok.ver] at this ⊢
        exact this
    · obtain ⟨b0, hb0, h3⟩ := hi b k hk hbm
      obtain ⟨k0, l, h0, d1, hl, rfl⟩ := keepB_spec h3
      obtain ⟨q, hq, ok⟩ := H.blk b0 k0 h0 d1
      exact ⟨⟨0, q.len, q.blk, q.base, q.csz⟩, by simp [renCtx, hbm, hb0, hq], ren_blk H hl ok⟩
  · by_cases hbm : b < m
    · simp only [renCtx, hbm, if_true] at hq
      obtain ⟨hbn, k0, h0, d1⟩ := H.back b q hq
      refine ⟨.inl ⟨hbm, hbn⟩, ?_⟩
      have hlt : b < h1.length := by omega
      obtain ⟨k0', h0', h3⟩ := lo b h1[b] (by rw [List.getElem?_append_left hlt]; exact List.getElem?_eq_getElem hlt) hbm
      rw [h0] at h0'
      injection h0' with h0'
      subst h0'
      refine ⟨h1[b], by rw [List.getElem?_append_left hlt]; exact List.getElem?_eq_getElem hlt, ?_⟩
      rcases renB_spec h3 with ⟨d2, _⟩ | ⟨_, l, _, e⟩
      · rw [d1] at d2
        cases d2
      · rw [e]
    · simp only [renCtx, hbm, if_false] at hq
      split at hq
      · rename_i b0 hb0
        rw [Option.map_eq_some_iff] at hq
        obtain ⟨q0, hq0, rfl⟩ := hq
        obtain ⟨hbn, k0, h0, d1⟩ := H.back b0 q0 hq0
        refine ⟨.inr ⟨by omega, b0, hb0, hbn⟩, ?_⟩
        have hlt : b - m < h2.length := by rw [l2]; exact (List.getElem?_eq_some_iff.1 hb0).1
        have hk2 : h2[b - m]? = some h2[b - m] := List.getElem?_eq_getElem hlt
        have hk3 : (h1 ++ h2)[b]? = some h2[b - m] := by rw [List.getElem?_append_right (by omega), hl1]; exact hk2
        obtain ⟨b1, hb1, h3⟩ := hi b _ hk3 hbm
        obtain ⟨_, l, _, _, _, e⟩ := keepB_spec h3
        exact ⟨h2[b - m], hk3, by rw [e]⟩
      · cases hq
  · by_cases hbm : b < m
    · by_cases hbm' : b' < m
      · simp only [renCtx, hbm, if_true] at hq
        simp only [renCtx, hbm', if_true] at hq'
        exact H.inj b b' q q' hq hq' hbl
      · simp only [renCtx, hbm, if_true] at hq
        simp only [renCtx, hbm', if_false] at hq'
        split at hq'
        · rename_i b0 hb0
          rw [Option.map_eq_some_iff] at hq'
          obtain ⟨q0, hq0, rfl⟩ := hq'
          have := H.inj b b0 q q0 hq hq0 hbl
          have := hge b0 (List.mem_of_getElem? hb0)
          omega
        · cases hq'
    · simp only [renCtx, hbm, if_false] at hq
      split at hq
      · rename_i b0 hb0
        rw [Option.map_eq_some_iff] at hq
        obtain ⟨q0, hq0, rfl⟩ := hq
        have hg0 := hge b0 (List.mem_of_getElem? hb0)
        by_cases hbm' : b' < m
        · simp only [renCtx, hbm', if_true] at hq'
          have := H.inj b0 b' q0 q' hq0 hq' hbl
          omega
        · simp only [renCtx, hbm', if_false] at hq'
          split at hq'
          · rename_i b1 hb1
            rw [Option.map_eq_some_iff] at hq'
            obtain ⟨q1, hq1, rfl⟩ := hq'
            have := H.inj b0 b1 q0 q1 hq0 hq1 hbl
            subst this
            have := distinctA_spec hd _ _ _ hb0 hb1
            omega
          · cases hq'
      · cases hq

theorem ren_ext (e : Ext Γ0 W0 Γ W) (hn : ∀ b, Γ0.born b → b < m) : Ext Γ0 W0 (renCtx Γ m ids) W := by
  refine ⟨e.B, fun b hb => .inl ⟨hn b hb, e.n b hb⟩, fun b q hb hq => ?_, e.G, e.lo⟩
  have hbm := hn b hb
  simp only [renCtx, hbm, if_true] at hq
  exact e.g b q hb hq

/-- The collector's outcome: as it was, or numbered anew. -/
theorem gcA_cases (m : Nat) (s : St) : gcA m s = s ∨ ∃ ids T h1 h2, gcA m s = ⟨T, h1 ++ h2⟩ ∧ mapO (renV (rhoA s.h m ids)) s.T = some T ∧ mapO (renB (rhoA s.h m ids)) (s.h.take m) = some h1 ∧
    mapO (keepB s.h (rhoA s.h m ids)) ids = some h2 ∧ distinctA ids = true ∧ (∀ b ∈ ids, m ≤ b) ∧ m ≤ s.h.length := by
  unfold gcA gcWith
  split
  · rename_i T h1 h2 e1 e2 e3
    split
    · rename_i hc
      simp only [Bool.and_eq_true, decide_eq_true_eq, List.all_eq_true] at hc
      exact .inr ⟨_, T, h1, h2, rfl, e1, e2, e3, hc.1.1, hc.1.2, hc.2⟩
    · exact .inl rfl
  · exact .inl rfl

theorem keep_act {T : List AV} {a : Act} (R : ActRel Γ W T a) (live : List Tmp) : ActRel Γ W (keepA 0 live T) a := by
  have key : ∀ (T : List AV) (i : Nat) (l : List Tmp), (keepA i l T).length = T.length ∧ ∀ t, (keepA i l T)[t]? = T[t]? ∨ ((keepA i l T)[t]? = some .any ∧ t < T.length) := by
    intro T
    induction T with
    | nil => intro i l; cases l <;> exact ⟨rfl, fun t => .inl rfl⟩
    | cons x T ih =>
      intro i l
      cases l with
      | nil =>
        obtain ⟨h1, h2⟩ := ih (i + 1) []
        refine ⟨by simp [keepA, h1], fun t => ?_⟩
        cases t with
        | zero => exact .inr ⟨rfl, by simp⟩
        | succ t =>
          rcases h2 t with h | ⟨h, h'⟩
          · exact .inl (by simpa [keepA] using h)
          · exact .inr ⟨by simpa [keepA] using h, by simp; omega⟩
      | cons k l =>
        simp only [keepA]
        split
        · obtain ⟨h1, h2⟩ := ih (i + 1) l
          refine ⟨by simp [h1], fun t => ?_⟩
          cases t with
          | zero => exact .inl rfl
          | succ t =>
            rcases h2 t with h | ⟨h, h'⟩
            · exact .inl (by simpa using h)
            · exact .inr ⟨by simpa using h, by simp; omega⟩
        · obtain ⟨h1, h2⟩ := ih (i + 1) (k :: l)
          refine ⟨by simp [h1], fun t => ?_⟩
          cases t with
          | zero => exact .inr ⟨rfl, by simp⟩
          | succ t =>
            rcases h2 t with h | ⟨h, h'⟩
            · exact .inl (by simpa using h)
            · exact .inr ⟨by simpa using h, by simp; omega⟩
  obtain ⟨h1, h2⟩ := key T 0 live
  refine ⟨by rw [h1]; exact R.len, fun t => ?_⟩
  have hr := R.rep t
  simp only [List.getD_eq_getElem?_getD] at hr ⊢
  rcases h2 t with h | ⟨h, _⟩
  · rw [h]
    exact hr
  · rw [h]
    exact .any _

theorem ren_act (H : HeapRel Γ W B h) {T T' : List AV} {a : Act} (R : ActRel Γ W T a) (hT : mapO (renV (rhoA h m ids)) T = some T') : ActRel (renCtx Γ m ids) W T' a := by
  obtain ⟨h1, h2⟩ := mapO_back hT
  refine ⟨by rw [h1]; exact R.len, fun t => ?_⟩
  have hr := R.rep t
  simp only [List.getD_eq_getElem?_getD] at hr ⊢
  cases hx : T'[t]? with
  | none =>
    have : T[t]? = none := by
      rw [List.getElem?_eq_none_iff] at hx ⊢
      omega
    rw [this] at hr
    obtain ⟨ws, e, h3, _⟩ := rep_tup (l := []) hr
    obtain rfl : ws = [] := List.eq_nil_of_length_eq_zero (by simpa using h3)
    rw [e]
    exact Rep.undef _ _
  | some x' =>
    obtain ⟨x, hx1, hx2⟩ := h2 t x' hx
    rw [hx1] at hr
    exact renV_rep H hx2 hr

end
end Go.Abs
