/- What a claim's reading of the arguments gives: cells of plain data stand for values alone. -/
import Derived.Test.YthiogecmahdmcaaGreatDoorRfxS3
import GoSem.ClaimJoined
import Derived.ChangeOld
import Derived.SizedLaws
set_option linter.unusedVariables false
set_option linter.unusedSimpArgs false
namespace Go.Abs
open Go.RowKit

/-- The cells of a value of a type, as abstract values; no slice of more levels than 'd'. -/
def HasT (P : Program) : Nat → TypeId → List AV → Prop
  | 0, _, _ => False
  | d + 1, t, l => match P.underlying t with
    | some .bool => ∃ b, l = [.bool b]
    | some (.int k) => ∃ n, l = [.int k n] ∧ (Lit.int k n).wf = true
    | some .string => ∃ s : ByteArray, l = [.str s] ∧ s.size ≤ reachBytes
    | some (.slice e) => l = [.nilsl] ∨ ∃ n m, l = [.imm false n m] ∧ m.length = n * P.cellsOf e ∧ n * P.bytesOf e ≤ reachBytes ∧ n ≤ maxLen ∧ ∀ i, i < n → HasT P d e ((m.drop (i * P.cellsOf e)).take (P.cellsOf e))
    | some (.struct fs) => l.length = P.cellsOf t ∧ ∀ f ∈ fs.toList, HasT P d f.type ((l.drop f.offset).take (P.cellsOf f.type))
    | _ => False

/-- The fields lie one behind the other, from 'off' on, up to 'n'. -/
def tiles (P : Program) : List Field → Nat → Nat → Bool
  | [], off, n => off == n
  | f :: fs, off, n => f.offset == off && tiles P fs (off + P.cellsOf f.type) n

/-- Types of plain data, closed under their parts. -/
def plainOk (P : Program) (S : List TypeId) : Bool := S.all fun t => match P.underlying t with
  | some .bool => P.cellsOf t == 1
  | some (.int _) => P.cellsOf t == 1
  | some .string => P.cellsOf t == 1
  | some (.slice e) => S.contains e && P.cellsOf t == 1
  | some (.struct fs) => fs.toList.all (fun f => S.contains f.type) && tiles P fs.toList 0 (P.cellsOf t)
  | _ => false

section
variable {H : Type} {enc : TypeId × Value → H} {P : Program} {w : World} {spare : Nat → Bool} {held : Bool} {G : Nat → Nat → Prop}

/-- Cells of values alone, side by side with the model's. -/
structure ClCells (w : World) (G : Nat → Nat → Prop) (l : List AV) (cs : List Value) : Prop where
  len : l.length = cs.length
  rep : ∀ (i : Nat) x v, l[i]? = some x → cs[i]? = some v → c1 x = true ∧ RepC w G x v

theorem mapM_get {α β : Type} {f : α → Option β} : ∀ {l : List α} {ys : List β}, l.mapM f = some ys → ys.length = l.length ∧ ∀ (i : Nat) x, l[i]? = some x → ∃ y, ys[i]? = some y ∧ f x = some y
  | [], ys, h => by
    simp at h
    subst h
    exact ⟨rfl, fun i x hx => by simp at hx⟩
  | a :: l, ys, h => by
    rw [List.mapM_cons] at h
    cases hf : f a with
    | none => rw [hf] at h; cases h
    | some y =>
      rw [hf] at h
      cases hl : l.mapM f with
      | none => rw [hl] at h; cases h
      | some zs =>
        rw [hl] at h
        have h : y :: zs = ys := by simpa using h
        subst h
        obtain ⟨h1, h2⟩ := mapM_get hl
        refine ⟨by simp [h1], fun i x hx => ?_⟩
        cases i with
        | zero =>
          simp at hx
          subst hx
          exact ⟨y, rfl, hf⟩
        | succ i => exact h2 i x (by simpa using hx)

theorem flat_get {α : Type} {sz : Nat} : ∀ {ls : List (List α)}, (∀ l ∈ ls, l.length = sz) → (ls.flatten).length = ls.length * sz ∧ ∀ (i : Nat) l, ls[i]? = some l → ((ls.flatten).drop (i * sz)).take sz = l
  | [], h => ⟨by simp, fun i l hl => by simp at hl⟩
  | a :: ls, h => by
    obtain ⟨h1, h2⟩ := flat_get (ls := ls) (fun l hl => h l (by simp [hl]))
    have ha := h a (by simp)
    refine ⟨by simp [h1, ha, Nat.succ_mul, Nat.add_comm], fun i l hl => ?_⟩
    simp only [List.flatten_cons]
    cases i with
    | zero =>
      simp at hl
      subst hl
      simp [← ha]
    | succ i =>
      rw [Nat.succ_mul, Nat.add_comm (i * sz) sz, List.drop_append, List.drop_eq_nil_of_le (by omega), List.nil_append, ha, show sz + i * sz - sz = i * sz from by omega]
      exact h2 i l (by simpa using hl)

theorem flat_at {α : Type} {sz : Nat} : ∀ {ls : List (List α)} {j : Nat} {x : α}, (∀ l ∈ ls, l.length = sz) → (ls.flatten)[j]? = some x → 0 < sz ∧ ∃ l, ls[j / sz]? = some l ∧ l[j % sz]? = some x
  | [], j, x, h, hx => by simp at hx
  | a :: ls, j, x, h, hx => by
    have ha := h a (by simp)
    simp only [List.flatten_cons, List.getElem?_append] at hx
    split at hx
    · rename_i hlt
      have hp : 0 < sz := by omega
      refine ⟨hp, a, ?_, ?_⟩
      · rw [Nat.div_eq_of_lt (by omega)]
        rfl
      · rw [Nat.mod_eq_of_lt (by omega)]
        exact hx
    · rename_i hge
      obtain ⟨hp, l, h1, h2⟩ := flat_at (ls := ls) (fun l hl => h l (by simp [hl])) hx
      refine ⟨hp, l, ?_, ?_⟩
      · have : j / sz = (j - a.length) / sz + 1 := by
          rw [ha]
          exact Nat.div_eq_sub_div hp (by omega)
        rw [this, List.getElem?_cons_succ]
        exact h1
      · have : j % sz = (j - a.length) % sz := by
          rw [ha, Nat.mod_eq_sub_mod (by omega)]
        rw [this]
        exact h2

/-- Fields one behind the other: their cells make up the whole. -/
theorem tiles_cells {R : Field → List AV → Prop} {cs : List Value} : ∀ (fs : List Field) (off n : Nat), tiles P fs off n = true → n ≤ cs.length →
    (∀ f ∈ fs, f.offset + P.cellsOf f.type ≤ n → ∃ l, ClCells w G l ((cs.drop f.offset).take (P.cellsOf f.type)) ∧ R f l) →
    off ≤ n ∧ ∃ l, ClCells w G l ((cs.drop off).take (n - off)) ∧ ∀ f ∈ fs, off ≤ f.offset ∧ R f ((l.drop (f.offset - off)).take (P.cellsOf f.type)) := by
  intro fs
  induction fs with
  | nil =>
    intro off n ht hn _
    simp only [tiles, beq_iff_eq] at ht
    subst ht
    exact ⟨Nat.le_refl _, [], ⟨by simp, fun i x v hx => by simp at hx⟩, fun f hf => by cases hf⟩
  | cons f fs ih =>
    intro off n ht hn hf
    simp only [tiles, Bool.and_eq_true, beq_iff_eq] at ht
    obtain ⟨rfl, ht⟩ := ht
    obtain ⟨hle, l2, hc2, hr2⟩ := ih _ n ht hn (fun g hg => hf g (by simp [hg]))
    obtain ⟨l1, hc1, hr1⟩ := hf f (by simp) hle
    have hl1 : l1.length = P.cellsOf f.type := by rw [hc1.len]; simp; omega
    refine ⟨by omega, l1 ++ l2, ⟨?_, fun i x v hx hv => ?_⟩, fun g hg => ?_⟩
    · simp only [List.length_append, hl1, hc2.len, List.length_take, List.length_drop]
      omega
    · rw [List.getElem?_append] at hx
      rw [List.getElem?_take] at hv
      split at hv
      · rw [List.getElem?_drop] at hv
        split at hx
        · rename_i h1
          refine hc1.rep i x v hx ?_
          rw [List.getElem?_take, if_pos (by omega), List.getElem?_drop]
          exact hv
        · rename_i h1
          refine hc2.rep (i - l1.length) x v hx ?_
          rw [List.getElem?_take, if_pos (by omega), List.getElem?_drop]
          rw [← hv]
          congr 1
          omega
      · cases hv
    · rcases List.mem_cons.1 hg with rfl | hg
      · refine ⟨Nat.le_refl _, ?_⟩
        rw [Nat.sub_self, List.drop_zero, List.take_append_of_le_length (by omega), List.take_of_length_le (by omega)]
        exact hr1
      · obtain ⟨g1, g2⟩ := hr2 g hg
        refine ⟨by omega, ?_⟩
        rw [List.drop_append, List.drop_eq_nil_of_le (by omega), List.nil_append, hl1, show g.offset - f.offset - P.cellsOf f.type = g.offset - (f.offset + P.cellsOf f.type) from by omega]
        exact g2

theorem weights_mem_all {e : TypeId} : ∀ {ds : List (DataW H)} {d : DataW H}, d ∈ ds → ∀ {m : Nat}, m ∈ d.weights P e → m ∈ DataW.weightsAll P e ds
  | d0 :: ds, d, hd, m, hm => by
    simp only [DataW.weightsAll, List.mem_append]
    rcases List.mem_cons.1 hd with rfl | hd
    · exact .inl hm
    · exact .inr (weights_mem_all hd hm)

theorem exists_list {α : Type} {R : Nat → α → Prop} : ∀ (n : Nat), (∀ i, i < n → ∃ l, R i l) → ∃ ls : List α, ls.length = n ∧ ∀ i l, ls[i]? = some l → R i l
  | 0, _ => ⟨[], rfl, fun i l h => by simp at h⟩
  | n + 1, h => by
    obtain ⟨ls, h1, h2⟩ := exists_list n (fun i hi => h i (by omega))
    obtain ⟨l, hl⟩ := h n (by omega)
    refine ⟨ls ++ [l], by simp [h1], fun i x hx => ?_⟩
    rw [List.getElem?_append] at hx
    split at hx
    · exact h2 i x hx
    · rename_i hge
      have hi : i = ls.length := by
        have := (List.getElem?_eq_some_iff.1 hx).1
        simp at this
        omega
      subst hi
      simp at hx
      subst hx
      rw [h1]
      exact hl

theorem cell_spot {a : Addr} {v : Value} (h : w.cell? a = some v) : a.spot = none := by
  unfold World.cell? at h
  split at h
  · split at h
    · cases h
    · rename_i hs
      simpa using hs
  · cases h

/-- What the claim's reading takes of plain data: cells that stand for values alone, of their type. -/
theorem trod_plain {S : List TypeId} (hS : plainOk P S = true) : ∀ (fuel : Nat) (t : TypeId) (cs : List Value) (d : DataW H) (ps : List MemPlace), t ∈ S →
    DataW.trod enc P w 0 spare held fuel t cs = some (d, ps) → (d.weights P t).all (· ≤ reachBytes) = true → (∀ β o, MemPlace.cell β o ∈ ps → G β o) →
    ∃ l, ClCells w G l cs ∧ HasT P fuel t l ∧ cs.length = P.cellsOf t := by
  intro fuel
  induction fuel with
  | zero => intro t cs d ps ht h; cases h
  | succ n ih =>
    intro t cs d ps ht h hz hG
    have hp := List.all_eq_true.1 hS t ht
    have one : ∀ (x : AV) (v : Value), c1 x = true → RepC w G x v → ClCells w G [x] [v] := by
      intro x v h1 h2
      refine ⟨rfl, fun i y u hy hu => ?_⟩
      cases i with
      | zero =>
        simp at hy hu
        subst hy hu
        exact ⟨h1, h2⟩
      | succ i => simp at hy
    have hwz : ∀ m ∈ d.weights P t, m ≤ reachBytes := fun m hm => by simpa using List.all_eq_true.1 hz m hm
    rw [DataW.trod.eq_def] at h
    simp only at h
    split at h
    case h_1 hu =>
      rw [hu] at hp
      exact ⟨[.bool _], one _ _ rfl (.bool _), by simp only [HasT, hu]; exact ⟨_, rfl⟩, by simpa using (beq_iff_eq.1 hp).symm⟩
    case h_2 hu =>
      rw [hu] at hp
      split at h
      · rename_i hk
        obtain ⟨rfl, hwf⟩ := hk
        exact ⟨[.int _ _], one _ _ rfl (.int _ _), by simp only [HasT, hu]; exact ⟨_, rfl, hwf⟩, by simpa using (beq_iff_eq.1 hp).symm⟩
      · cases h
    case h_4 s hu =>
      rw [hu] at hp
      split at h
      · simp only [Option.some.injEq, Prod.mk.injEq] at h
        obtain ⟨rfl, -⟩ := h
        refine ⟨[.str s], one _ _ rfl (.str _), ?_, by simpa using (beq_iff_eq.1 hp).symm⟩
        simp only [HasT, hu]
        exact ⟨s, rfl, by have := hwz s.data.toList.length (by simp [DataW.weights]); simpa using this⟩
      · cases h
    case h_7 hu =>
      rw [hu] at hp
      simp only [Bool.and_eq_true] at hp
      exact ⟨[.nilsl], one _ _ rfl .nilsl, by simp [HasT, hu], by simpa using (beq_iff_eq.1 hp.2).symm⟩
    case h_8 el a len cap hu =>
      rw [hu] at hp
      simp only [Bool.and_eq_true] at hp
      obtain ⟨hel, hp1⟩ := hp
      have helS : el ∈ S := by simpa using hel
      split at h
      · rename_i hc
        rw [Option.bind_eq_some_iff] at h
        obtain ⟨elems, he, h⟩ := h
        rw [Option.map_eq_some_iff] at h
        obtain ⟨rest, hr, h⟩ := h
        simp only [Prod.mk.injEq] at h
        obtain ⟨rfl, rfl⟩ := h
        obtain ⟨e1, e2⟩ := mapM_get he
        have e1' : elems.length = len := by simpa using e1
        have hrow : ∀ i, i < len → ∃ l cs x, elems[i]? = some x ∧ w.cells? 0 (a.add (i * P.cellsOf el)) (P.cellsOf el) = some cs ∧ ClCells w G l cs ∧ HasT P n el l ∧ cs.length = P.cellsOf el := by
          intro i hi
          obtain ⟨x, hx, hx2⟩ := e2 i i (by simp [hi])
          rw [Option.bind_eq_some_iff] at hx2
          obtain ⟨cs, hcs, htr⟩ := hx2
          obtain ⟨l, l1, l2, l3⟩ := ih el cs x.1 x.2 helS htr (by
            rw [List.all_eq_true]
            intro m hm
            have : m ∈ DataW.weightsAll P el (elems.map (·.1)) := weights_mem_all (List.mem_map.2 ⟨x, List.mem_of_getElem? hx, rfl⟩) hm
            have := hwz m (by simp only [DataW.weights, hu]; exact List.mem_cons_of_mem _ (List.mem_append_left _ this))
            simpa using this) (fun β o hm => hG β o (List.mem_append_right _ (List.mem_flatMap.2 ⟨x, List.mem_append_left _ (List.mem_of_getElem? hx), hm⟩)))
          exact ⟨l, cs, x, hx, hcs, l1, l2, l3⟩
        obtain ⟨ls, hls, hls2⟩ := exists_list (R := fun i l => ∃ cs, w.cells? 0 (a.add (i * P.cellsOf el)) (P.cellsOf el) = some cs ∧ ClCells w G l cs ∧ HasT P n el l ∧ cs.length = P.cellsOf el) len (fun i hi => by
          obtain ⟨l, cs, x, _, h2, h3⟩ := hrow i hi
          exact ⟨l, cs, h2, h3⟩)
        have hsz : ∀ l ∈ ls, l.length = P.cellsOf el := by
          intro l hl
          obtain ⟨i, hi⟩ := List.getElem?_of_mem hl
          obtain ⟨cs, _, c1, _, c3⟩ := hls2 i l hi
          rw [c1.len, c3]
        obtain ⟨f1, f2⟩ := flat_get hsz
        have hcell : ∀ (j : Nat) x, ls.flatten[j]? = some x → a.spot = none ∧ ∃ v, w.cell? ⟨a.block, a.off + j, none⟩ = some v ∧ c1 x = true ∧ RepC w G x v := by
          intro j x hx
          obtain ⟨hpos, l, hl, hlx⟩ := flat_at hsz hx
          obtain ⟨cs, k1, k2, _, k4⟩ := hls2 _ l hl
          have hlt : j / P.cellsOf el < len := by
            have := (List.getElem?_eq_some_iff.1 hl).1
            omega
          have hmod : j % P.cellsOf el < P.cellsOf el := Nat.mod_lt _ hpos
          -- the first cell: the slice's place has no spot
          have hsp : a.spot = none := by
            obtain ⟨_, cs0, _, _, g2, _, _, g3⟩ := hrow 0 (Nat.lt_of_le_of_lt (Nat.zero_le _) hlt)
            unfold World.cells? at g2
            rw [if_pos (Nat.zero_le _)] at g2
            obtain ⟨g4, g5⟩ := mapM_get g2
            obtain ⟨v0, _, hv0⟩ := g5 0 0 (by simp [hpos])
            simp only [Nat.zero_mul, Addr.add, if_true] at hv0
            exact cell_spot hv0
          unfold World.cells? at k1
          rw [if_pos (Nat.zero_le _)] at k1
          obtain ⟨k5, k6⟩ := mapM_get k1
          obtain ⟨v, hv, hv2⟩ := k6 (j % P.cellsOf el) (j % P.cellsOf el) (by simp [hmod])
          obtain ⟨r1, r2⟩ := k2.rep _ x v hlx hv
          refine ⟨hsp, v, ?_, r1, r2⟩
          rw [add_eq hsp, add_eq rfl] at hv2
          simp only at hv2
          rw [← hv2]
          congr 2
          have := Nat.div_add_mod j (P.cellsOf el)
          rw [Nat.mul_comm] at this
          omega
        have hin : ∀ (j : Nat), j < ls.flatten.length → G a.block (a.off + j) := by
          intro j hj
          refine hG _ _ (List.mem_append_left _ ?_)
          unfold MemPlace.row
          refine List.mem_map.2 ⟨j, ?_, rfl⟩
          rw [List.mem_range]
          rw [f1, hls] at hj
          refine Nat.lt_of_lt_of_le hj (Nat.mul_le_mul_right _ (by omega))
        refine ⟨[.imm false len ls.flatten], one _ _ rfl (.imm _ _ _ _ _ (fun j => (w.cell? ⟨a.block, a.off + j, none⟩).getD undef) hc.2.1 (fun h => by cases h) (fun j x hx => ?_) (fun j x hx => ?_)), ?_, by simpa using (beq_iff_eq.1 hp1).symm⟩
        · obtain ⟨h1, v, h2, h3, h4⟩ := hcell j x hx
          exact ⟨h3, h1, hin j (List.getElem?_eq_some_iff.1 hx).1, by rw [h2]; rfl⟩
        · obtain ⟨h1, v, h2, h3, h4⟩ := hcell j x hx
          rw [h2]
          exact h4
        · simp only [HasT, hu]
          refine .inr ⟨len, ls.flatten, rfl, by rw [f1, hls], ?_, by omega, fun i hi => ?_⟩
          · have := hwz ((elems.map (·.1)).length * P.bytesOf el + (rest.map (·.1)).length * P.bytesOf el) (by simp [DataW.weights, hu, Nat.add_mul])
            simp only [List.length_map, e1'] at this
            omega
          · have hi' : i < ls.length := by omega
            rw [f2 i ls[i] (List.getElem?_eq_getElem hi')]
            obtain ⟨cs, _, _, c2, _⟩ := hls2 i ls[i] (List.getElem?_eq_getElem hi')
            exact c2
      · cases h
    case h_9 cs1 _ _ fs hu =>
      rw [hu] at hp
      simp only [Bool.and_eq_true] at hp
      obtain ⟨hel, htile⟩ := hp
      split at h
      · rename_i hcl
        rw [Option.map_eq_some_iff] at h
        obtain ⟨xs, hxs, h⟩ := h
        simp only [Prod.mk.injEq] at h
        obtain ⟨rfl, rfl⟩ := h
        obtain ⟨e1, e2⟩ := mapM_get hxs
        obtain ⟨_, l, l1, l2⟩ := tiles_cells (w := w) (G := G) (cs := cs1) (R := fun f l => HasT P n f.type l) fs.toList 0 (P.cellsOf t) htile (by omega) (fun f hf _ => by
          obtain ⟨j, hj⟩ := List.getElem?_of_mem hf
          obtain ⟨x, hx, htr⟩ := e2 j f hj
          have hfS : f.type ∈ S := by simpa using List.all_eq_true.1 hel f hf
          obtain ⟨l, l1, l2, _⟩ := ih f.type _ x.1 x.2 hfS htr (by
            rw [List.all_eq_true]
            intro m hm
            have := DataW.weights_mem_each (P := P) (ts := fs.toList.map (·.type)) (ds := xs.map (·.1)) (j := j) (t := f.type) (d := x.1) (by rw [List.getElem?_map, hj]; rfl) (by rw [List.getElem?_map, hx]; rfl) m hm
            have := hwz m (by simp only [DataW.weights, hu]; exact this)
            simpa using this) (fun β o hm => hG β o (List.mem_flatMap.2 ⟨x, List.mem_of_getElem? hx, hm⟩))
          exact ⟨l, l1, l2⟩)
        have hl : l.length = P.cellsOf t := by rw [l1.len]; simp; omega
        refine ⟨l, ?_, ?_, hcl⟩
        · rw [List.drop_zero, Nat.sub_zero, List.take_of_length_le (by omega)] at l1
          exact l1
        · simp only [HasT, hu]
          refine ⟨hl, fun f hf => ?_⟩
          have := (l2 f hf).2
          rwa [Nat.sub_zero] at this
      · cases h
    all_goals first
      | (cases h; done)
      | (rename_i hu _; rw [hu] at hp; cases hp; done)
      | (rename_i hu; rw [hu] at hp; cases hp; done)
      | skip

end
end Go.Abs
