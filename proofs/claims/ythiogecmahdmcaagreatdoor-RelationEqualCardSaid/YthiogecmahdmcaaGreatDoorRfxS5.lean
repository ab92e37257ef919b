/- What an operation depends on: its operands; the blocks that its class names. -/
import Derived.Test.YthiogecmahdmcaaGreatDoorRfxS4
set_option linter.unusedVariables false
set_option linter.unusedSimpArgs false
namespace Go.Abs

theorem mapO_congr {α β : Type} {f g : α → Option β} : ∀ {l : List α}, (∀ x ∈ l, f x = g x) → mapO f l = mapO g l
  | [], _ => rfl
  | x :: l, h => by simp only [mapO, h x (by simp), mapO_congr (l := l) (fun y hy => h y (by simp [hy]))]

theorem partsO_congr {e e' : Operand → Option AV} {ps : Array (Nat × Operand)} (h : ∀ x ∈ ps.toList.map (·.2), e x = e' x) : partsO e ps = partsO e' ps := by
  unfold partsO
  refine mapO_congr (fun p hp => ?_)
  rw [h p.2 (List.mem_map.2 ⟨p, hp, rfl⟩)]

section
variable {P : Program} {e e' : Operand → Option AV}

theorem opP_congr (own : Bool) (op : Op) (h : ∀ x ∈ op.operands, e x = e' x) : opP P own e op = opP P own e' op := by
  cases op <;> simp only [Op.operands] at h <;> simp only [opP]
  case build t ps => rw [partsO_congr (fun x hx => h x (by simpa using hx))]
  case buildSlice t n ps => rw [partsO_congr (fun x hx => h x (by simpa using hx))]
  case makeFunc fn first caps =>
    cases fn <;> simp only [opP]
    rw [mapO_congr (l := caps.toList) (fun x hx => h x (by simp; exact .inr (by simpa using hx)))]
  case slice t x lo hi mx => cases lo <;> cases hi <;> cases mx <;> simp_all [optO]
  case call c =>
    obtain ⟨callee, args, ats⟩ := c
    have hargs : ∀ x ∈ args.toList, e x = e' x := fun x hx => h x (by simp [Call.operands]; exact .inr (by simpa using hx))
    cases callee with
    | value f => rfl
    | invoke r m => rfl
    | builtin b =>
      cases b <;> simp only [opP] <;> first
        | rfl
        | rw [mapO_congr hargs]
        | (cases hl : args.toList with
           | nil => rfl
           | cons x r =>
             rw [hl] at hargs
             cases ats.toList with
             | nil => rfl
             | cons t q => simp only [hargs x (by simp)])
  all_goals (first | rfl | (simp_all; done))

theorem opC_congr (hp : Heap) (op : Op) (h : ∀ x ∈ op.operands, e x = e' x) : opC P e hp op = opC P e' hp op := by
  cases op <;> simp only [Op.operands] at h <;> simp only [opC]
  case slice t x lo hi mx => cases lo <;> cases hi <;> cases mx <;> simp_all [optO]
  all_goals (first | rfl | (simp_all; done))

theorem opL_congr (hp : Heap) (op : Op) (h : ∀ x ∈ op.operands, e x = e' x) : opL P e hp op = opL P e' hp op := by
  cases op <;> simp only [Op.operands] at h <;> simp only [opL]
  case buildSlice t n ps => rw [partsO_congr (fun x hx => h x (by simpa using hx))]
  case call c =>
    obtain ⟨callee, args, ats⟩ := c
    have hargs : ∀ x ∈ args.toList, e x = e' x := fun x hx => h x (by simp [Call.operands]; exact .inr (by simpa using hx))
    cases callee with
    | value f => rfl
    | invoke r m => rfl
    | builtin b =>
      cases b <;> simp only [opL] <;> first
        | rfl
        | rw [mapO_congr hargs]
        | (cases hl : args.toList with
           | nil => rfl
           | cons x r =>
             rw [hl] at hargs
             cases r with
             | nil => rfl
             | cons y r =>
               cases r with
               | nil =>
                 cases ats.toList with
                 | nil => rfl
                 | cons t q =>
                   cases q with
                   | nil => first | rfl | simp only [hargs x (by simp), hargs y (by simp)]
                   | cons t2 q => cases q <;> first | rfl | simp only [hargs x (by simp), hargs y (by simp)]
               | cons z r => rfl)
  all_goals (first | rfl | (simp_all; done))

theorem footC_congr (op : Op) (h : ∀ x ∈ op.operands, e x = e' x) : footC e op = footC e' op := by
  unfold footC
  have : ∀ l : List Operand, (∀ x ∈ l, e x = e' x) → (l.flatMap fun x => match e x with | some v => namesA v | none => []) = l.flatMap fun x => match e' x with | some v => namesA v | none => [] := by
    intro l
    induction l with
    | nil => intro _; rfl
    | cons x l ih =>
      intro hl
      simp only [List.flatMap_cons, hl x (by simp), ih (fun y hy => hl y (by simp [hy]))]
  exact this _ (fun x hx => h x (by simpa using hx))

theorem footL_congr (op : Op) (h : ∀ x ∈ op.operands, e x = e' x) : footL e op = footL e' op := by
  cases op <;> simp only [Op.operands] at h <;> simp only [footL]
  all_goals (first | rfl | (simp_all; done))

theorem opA_congr {cfg : Cfg} {orc : Orc} {own draw : Bool} {T T' : List AV} {h : Heap} (op : Op) (hx : ∀ x ∈ op.operands, evA T x = evA T' x) :
    opA P cfg orc own draw ⟨T, h⟩ op = opA P cfg orc own draw ⟨T', h⟩ op := by
  unfold opA
  split
  · rename_i f args ats
    have h1 : evA T f = evA T' f := hx f (by simp [Op.operands, Call.operands])
    have h2 : mapO (evA T) args.toList = mapO (evA T') args.toList := mapO_congr (fun x hm => hx x (by simp [Op.operands, Call.operands]; exact .inr (by simpa using hm)))
    simp only [h1, h2]
  · simp only [opP_congr own op hx, opC_congr h op hx, opL_congr h op hx, footC_congr op hx, footL_congr op hx]

theorem wakeA_congr {cfg : Cfg} {T T' : List AV} {h : Heap} (op : Op) (k : Nat) (hx : ∀ x ∈ op.operands, evA T x = evA T' x) : wakeA P cfg ⟨T, h⟩ op k = wakeA P cfg ⟨T', h⟩ op k := by
  unfold wakeA
  cases op <;> try rfl
  case call c =>
    obtain ⟨callee, args, ats⟩ := c
    cases callee <;> try rfl
    rename_i f
    cases f <;> try rfl
    have h2 : mapO (evA T) args.toList = mapO (evA T') args.toList := mapO_congr (fun x hm => hx x (by simp [Op.operands, Call.operands]; exact .inr (by simpa using hm)))
    simp only [h2]

end

/-! ### Where the heap is looked at -/
def Agree (ids : List Nat) (h h2 : Heap) : Prop := ∀ b ∈ ids, h2[b]? = h[b]?

theorem hget_agree {h h2 : Heap} {b ver : Nat} (hb : h2[b]? = h[b]?) : hget h2 b ver = hget h b ver := by
  unfold hget
  rw [hb]

theorem snap_local {h h2 : Heap} {ex : Option Nat} : ∀ (d : Nat) (x : AV) (x' : AV), snap h ex d x = some x' → Agree (touch h d x) h h2 → snap h2 ex d x = some x' ∧ touch h2 d x = touch h d x
  | 0, x, x', hs, ha => by cases hs
  | d + 1, x, x', hs, ha => by
    have list : ∀ (l l' : List AV), mapO (snap h ex d) l = some l' → Agree (l.flatMap (touch h d)) h h2 → mapO (snap h2 ex d) l = some l' ∧ l.flatMap (touch h2 d) = l.flatMap (touch h d) := by
      intro l
      induction l with
      | nil => intro l' hl _; exact ⟨hl, rfl⟩
      | cons y l ih =>
        intro l' hl hag
        simp only [mapO] at hl
        split at hl
        · cases hl
        · rename_i y1 hy1
          split at hl
          · cases hl
          · rename_i l1 hl1
            obtain ⟨a1, a2⟩ := snap_local d y y1 hy1 (fun b hb => hag b (by simp only [List.flatMap_cons, List.mem_append]; exact .inl hb))
            obtain ⟨b1, b2⟩ := ih l1 hl1 (fun b hb => hag b (by simp only [List.flatMap_cons, List.mem_append]; exact .inr hb))
            exact ⟨by simp only [mapO, a1, b1]; exact hl, by simp only [List.flatMap_cons, a2, b2]⟩
    simp only [snap] at hs
    split at hs
    · rename_i b ver off n sz
      split at hs
      · cases hs
      · rename_i hex
        split at hs
        · rename_i k hk
          simp only [touch, hk] at ha
          have hk2 : hget h2 b ver = some k := by rw [hget_agree (ha b (by simp)), hk]
          split at hs
          · rename_i hle
            split at hs
            · rename_i l hl
              obtain ⟨a1, a2⟩ := list _ _ hl (fun b hb => ha b (List.mem_cons_of_mem _ hb))
              refine ⟨?_, ?_⟩
              · simp only [snap, if_neg hex, hk2, if_pos hle, a1]
                exact hs
              · simp only [touch, hk, hk2, a2]
            · cases hs
          · cases hs
        · cases hs
    · rename_i l
      split at hs
      · rename_i l' hl
        simp only [touch] at ha
        obtain ⟨a1, a2⟩ := list _ _ hl ha
        refine ⟨?_, ?_⟩
        · simp only [snap, a1]
          exact hs
        · simp only [touch, a2]
      · cases hs
    · rename_i hn1 hn2
      cases x <;> first | exact ⟨hs, rfl⟩ | exact absurd rfl (hn1 _ _ _ _ _) | exact absurd rfl (hn2 _)

section
variable {P : Program} {e : Operand → Option AV}

theorem footC_mem {op : Op} {x : Operand} {v : AV} {b : Nat} (hx : x ∈ op.operands) (he : e x = some v) (hb : b ∈ namesA v) : b ∈ footC e op := by
  unfold footC
  exact List.mem_flatMap.2 ⟨x, by simpa using hx, by rw [he]; exact hb⟩

theorem elemsA_local {h h2 : Heap} {sz : Nat} {x : AV} (ha : Agree (namesA x) h h2) : elemsA h2 sz x = elemsA h sz x := by
  cases x <;> simp only [elemsA]
  rename_i b ver off n sz'
  rw [hget_agree (ha b (by simp [namesA]))]

theorem opC_local {h h2 : Heap} {op : Op} {v : AV} (hop : opC P e h op = some v) (ha : Agree (footC e op) h h2) : opC P e h2 op = some v := by
  cases op <;> simp only [opC] at hop ⊢ <;> try cases hop
  case load t a =>
    cases hea : e a with
    | none => rw [hea] at hop; cases hop
    | some x =>
      rw [hea] at hop
      cases x <;> try cases hop
      rename_i b ver off
      simp only at hop ⊢
      rw [hget_agree (ha b (footC_mem (by simp [Op.operands]) hea (by simp [namesA])))]
      exact hop
  case slice t x lo hi mx =>
    cases mx with
    | some m => simp only [opC] at hop; cases hop
    | none =>
      simp only [opC] at hop ⊢
      cases hex : e x with
      | none => rw [hex] at hop; split at hop <;> simp_all
      | some y =>
        rw [hex] at hop
        split at hop
        · rename_i n elem b ver off hu hy
          injection hy with hy
          subst hy
          rw [hget_agree (ha b (footC_mem (x := x) (by simp [Op.operands]) hex (by simp [namesA])))]
          exact hop
        · cases hop
  case convert src dst x =>
    cases hex : e x with
    | none => rw [hex] at hop; split at hop <;> simp_all
    | some y =>
      rw [hex] at hop
      have hag : Agree (namesA y) h h2 := fun b hb => ha b (footC_mem (x := x) (by simp [Op.operands]) hex hb)
      split at hop
      · rename_i el y' hs hd hy
        injection hy with hy
        subst hy
        split at hop
        · rename_i hu
          exact hop
        · rename_i t n l hu
          rw [elemsA_local (x := .imm t n l) hag]
          exact hop
        · rename_i b ver off n sz hu
          rw [elemsA_local (x := .own b ver off n sz) hag]
          exact hop
        · cases hop
      · rename_i t b ver off hs hd hy
        injection hy with hy
        subst hy
        rw [hget_agree (hag b (by simp [namesA]))]
        exact hop
      · rename_i u b ver off hs hd hy
        injection hy with hy
        subst hy
        rw [hget_agree (hag b (by simp [namesA]))]
        exact hop
      · cases hop
  case binOp op t x y pos =>
    split at hop
    · rename_i elem b ver off b' ver' off' hu hx hy
      rw [hget_agree (ha b (footC_mem (x := x) (by simp [Op.operands]) hx (by simp [namesA])))]
      exact hop
    · rename_i elem b ver off b' ver' off' hu hx hy
      rw [hget_agree (ha b (footC_mem (x := x) (by simp [Op.operands]) hx (by simp [namesA])))]
      exact hop
    · cases hop

/-- What is known of an operation that turns only the blocks 'ids'. -/
structure LocalL (run : Heap → Option (Cls × AV × Heap)) (ids : List Nat) (v : AV) (h h' : Heap) : Prop where
  len : h'.length = h.length
  off : ∀ b, b ∉ ids → h'[b]? = h[b]?
  same : ∀ h2 : Heap, h2.length = h.length → Agree ids h h2 → ∃ h2', run h2 = some (.L (some ids), v, h2') ∧ h2'.length = h2.length ∧ (∀ b ∈ ids, h2'[b]? = h'[b]?) ∧ (∀ b, b ∉ ids → h2'[b]? = h2[b]?)

/-- What an operation's class says. -/
def ClsOk (run : Heap → Option (Cls × AV × Heap)) (c : Cls) (v : AV) (h h' : Heap) : Prop :=
  match c with
  | .P => h' = h ∧ ∀ h2, run h2 = some (.P, v, h2)
  | .C (some ids) => h' = h ∧ ∀ h2, Agree ids h h2 → run h2 = some (.C (some ids), v, h2)
  | .C none => False
  | .L (some ids) => LocalL run ids v h h'
  | .L none => True

theorem set_local {h : Heap} {b : Nat} {k : Blk} : (h.set b k).length = h.length ∧ (∀ j, j ∉ [b] → (h.set b k)[j]? = h[j]?) := by
  refine ⟨by simp, fun j hj => ?_⟩
  rw [List.getElem?_set, if_neg (by simp at hj; omega)]

theorem storeA_local {h h' : Heap} {b ver off : Nat} {vs : List AV} (hs : storeA h b ver off vs = some h') :
    h'.length = h.length ∧ (∀ j, j ∉ [b] → h'[j]? = h[j]?) ∧ ∀ h2 : Heap, h2.length = h.length → Agree [b] h h2 → ∃ h2', storeA h2 b ver off vs = some h2' ∧ h2'.length = h2.length ∧ (∀ j ∈ [b], h2'[j]? = h'[j]?) ∧ (∀ j, j ∉ [b] → h2'[j]? = h2[j]?) := by
  unfold storeA at hs
  split at hs
  · rename_i k hk
    split at hs
    · rename_i hc
      injection hs with hs
      subst hs
      refine ⟨set_local.1, set_local.2, fun h2 hl ha => ⟨h2.set b ⟨ver, false, k.el, k.ex, false, splice k.cells off vs⟩, ?_, set_local.1, fun j hj => ?_, set_local.2⟩⟩
      · unfold storeA
        rw [hget_agree (ha b (by simp)), hk]
        simp only
        rw [if_pos hc]
      · simp at hj
        subst hj
        rw [List.getElem?_set, List.getElem?_set, if_pos rfl, if_pos rfl, hl]
    · cases hs
  · cases hs

theorem freezeA_local {h : Heap} (ids : List Nat) : (freezeA ids h 0).length = h.length ∧ (∀ j, j ∉ ids → (freezeA ids h 0)[j]? = h[j]?) ∧
    ∀ h2 : Heap, h2.length = h.length → Agree ids h h2 → (freezeA ids h2 0).length = h2.length ∧ (∀ j ∈ ids, (freezeA ids h2 0)[j]? = (freezeA ids h 0)[j]?) ∧ (∀ j, j ∉ ids → (freezeA ids h2 0)[j]? = h2[j]?) := by
  have off : ∀ (h : Heap) j, j ∉ ids → (freezeA ids h 0)[j]? = h[j]? := by
    intro h j hj
    rw [freezeA_get]
    cases h[j]? with
    | none => rfl
    | some k => simp [hj]
  refine ⟨freezeA_len _ _ _, off h, fun h2 hl ha => ⟨freezeA_len _ _ _, fun j hj => ?_, off h2⟩⟩
  rw [freezeA_get, freezeA_get, ha j hj]

end

section
variable {P : Program}

theorem flat_snap {h h2 : Heap} {ex : Option Nat} {d : Nat} : ∀ {as as' : List AV}, mapO (snap h ex d) as = some as' → Agree (as.flatMap (touch h d)) h h2 →
    mapO (snap h2 ex d) as = some as' ∧ as.flatMap (touch h2 d) = as.flatMap (touch h d)
  | [], as', hs, ha => ⟨hs, rfl⟩
  | y :: l, as', hs, ha => by
    simp only [mapO] at hs
    split at hs
    · cases hs
    · rename_i y1 hy1
      split at hs
      · cases hs
      · rename_i l1 hl1
        obtain ⟨a1, a2⟩ := snap_local d y y1 hy1 (fun b hb => ha b (by simp only [List.flatMap_cons, List.mem_append]; exact .inl hb))
        obtain ⟨b1, b2⟩ := flat_snap hl1 (fun b hb => ha b (by simp only [List.flatMap_cons, List.mem_append]; exact .inr hb))
        exact ⟨by simp only [mapO, a1, b1]; exact hs, by simp only [List.flatMap_cons, a2, b2]⟩

theorem callA_cls {cfg : Cfg} {orc : Orc} {fv : AV} {as : List AV} {h h' : Heap} {c : Cls} {v : AV} (hc : callA cfg orc true fv as h = some (c, v, h')) :
    ClsOk (callA cfg orc true fv as) c v h h' := by
  cases fv <;> try (simp only [callA] at hc; cases hc)
  rename_i f caps
  have hc0 := hc
  simp only [callA] at hc
  split at hc
  · rename_i hfn
    split at hc
    · split at hc
      · split at hc
        · simp only [Option.some.injEq, Prod.mk.injEq] at hc
          obtain ⟨rfl, rfl, rfl⟩ := hc
          trivial
        · cases hc
      · cases hc
    · rename_i hm
      split at hc
      · rename_i v1 hx
        simp only [Option.some.injEq, Prod.mk.injEq] at hc
        obtain ⟨rfl, rfl, rfl⟩ := hc
        exact ⟨rfl, fun h2 => by simp only [callA, hfn, hm, hx]⟩
      · cases hc
  · rename_i fn hfn
    split at hc
    · split at hc
      · simp only [Option.some.injEq, Prod.mk.injEq] at hc
        obtain ⟨rfl, -⟩ := hc
        trivial
      · cases hc
    · rename_i hthr
      split at hc
      · rename_i hcl
        split at hc
        · rename_i rv hp
          rw [callR_draw] at hc
          simp only [Option.some.injEq, Prod.mk.injEq] at hc
          obtain ⟨rfl, rfl, rfl⟩ := hc
          exact ⟨rfl, fun h2 => by simp only [callA, hfn, hthr, hcl, hp, callR_draw, if_true, Bool.false_eq_true, if_false]⟩
        · cases hc
      · rename_i hcl
        split at hc
        · rename_i as' hsn
          split at hc
          · rename_i rv hp
            split at hc
            · rename_i hsc
              simp only [Option.some.injEq, Prod.mk.injEq] at hc
              obtain ⟨rfl, rfl, rfl⟩ := hc
              refine ⟨rfl, fun h2 ha => ?_⟩
              obtain ⟨b1, b2⟩ := flat_snap hsn ha
              simp only [callA, hfn, hthr, hcl, b1, b2, hp, hsc, if_true, Bool.false_eq_true, if_false]
            · rename_i hsc
              simp only [if_true] at hc
              simp only [Option.some.injEq, Prod.mk.injEq] at hc
              obtain ⟨rfl, rfl, rfl⟩ := hc
              obtain ⟨l1, l2, l3⟩ := freezeA_local (h := h) ((as ++ caps).flatMap (touch h depthA))
              refine ⟨l1, l2, fun h2 hl ha => ?_⟩
              obtain ⟨b1, b2⟩ := flat_snap hsn ha
              obtain ⟨m1, m2, m3⟩ := l3 h2 hl ha
              exact ⟨_, by simp only [callA, hfn, hthr, hcl, b1, b2, hp, hsc, if_true, Bool.false_eq_true, if_false], m1, m2, m3⟩
          · cases hc
        · split at hc
          · simp only [Option.some.injEq, Prod.mk.injEq] at hc
            obtain ⟨rfl, -⟩ := hc
            trivial
          · cases hc

end
end Go.Abs
