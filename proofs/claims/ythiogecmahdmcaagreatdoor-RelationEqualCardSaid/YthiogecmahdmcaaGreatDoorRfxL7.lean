/- All operations that turn the heap. -/
import Derived.Test.YthiogecmahdmcaaGreatDoorRfxL6
set_option linter.unusedVariables false
set_option linter.unusedSimpArgs false
namespace Go.Abs
open Go.RowKit

section
variable {P : Program} {Γ : Ctx} {W W' : World} {B : Nat} {h : Heap}

theorem arr2 {α : Type} {xs : Array α} {a b : α} (h : xs.toList = [a, b]) : xs = #[a, b] := by
  apply Array.ext'
  rw [h]

theorem ustr_nil {T : List AV} {a : Act} {o : Oper} {args : Array Operand} {ats : Array TypeId} {pt : TypeId} {tr : List TypeId} {k0 : IntKind}
    (R : ActRel Γ W T a) (H : HeapRel Γ W B h) (ho : o.op = .call { callee := .builtin .unsafeString, args, argTypes := ats }) (hat : ats.toList = pt :: tr)
    (hm : mapO (evA T) args.toList = some [.nilptr, .int k0 0]) : Done P Γ W B a o h (.str ByteArray.empty) := by
  obtain ⟨e1, e2⟩ := mapO_evA R hm
  have hargs : ∃ u v, args.toList.map a.eval = [u, v] := by
    match hl : args.toList.map a.eval, e1 with
    | [u, v], _ => exact ⟨u, v, rfl⟩
  obtain ⟨u, v, hargs⟩ := hargs
  rw [hargs] at e2
  obtain rfl := rep_nilptr (e2 0 _ _ rfl rfl)
  obtain rfl := rep_int (e2 1 _ _ rfl rfl)
  have harr : args.map a.eval = #[.pointer none, .int k0 0] := by apply Array.ext'; rw [Array.toList_map]; exact hargs
  have hats : ats = (pt :: tr).toArray := by rw [← hat]
  have e : IntKind.i64.max = 9223372036854775807 := rfl
  refine ⟨_, W, Γ, .inl ?_, H, Ext.refl _ _, Below.refl _ _, .cl _ _ (.str _)⟩
  simp only [execOp, ho, resolve, invoke, builtin, Sem.run_bind, Sem.run_pure, Result.andThen_ok, harr]
  rw [hats, unsafeString_none]
  simp [asInt, asIntOf, e]

theorem opL_rep {T : List AV} {a : Act} {o : Oper} {v : AV} {h' : Heap} (R : ActRel Γ W T a) (H : HeapRel Γ W B h) (hB : B ≤ W.heap.size)
    (hop : opL P (evA T) h o.op = some (v, h')) : Done P Γ W B a o h' v := by
  unfold opL at hop
  split at hop
  · rename_i elem ho
    split at hop
    · rename_i z hz
      injection hop with hop
      injection hop with e1 e2
      subst e1 e2
      exact alloc_done (T := T) H hB ho hz
    · cases hop
  · rename_i elem x ho
    split at hop
    · rename_i p hp
      split at hop
      · rename_i l hl
        injection hop with hop
        injection hop with e1 e2
        subst e1 e2
        exact box_done R H hB ho hp hl
      · cases hop
    · cases hop
  · rename_i t x y ho
    split at hop
    · rename_i b ver off p n hx hy hn
      split at hop
      · rename_i vs hvs
        split at hop
        · rename_i hlen
          split at hop
          · rename_i h1 hst
            injection hop with hop
            injection hop with e1 e2
            subst e1 e2
            exact store_done R H ho hx hy hn hvs hlen hst
          · cases hop
        · cases hop
      · cases hop
    · cases hop
  · rename_i t len parts ho
    split at hop
    · rename_i ps hps
      split at hop
      · rename_i cells size elem hlit
        obtain ⟨d1, d2⟩ := lit_done R H hB ho hps hlit
        split at hop
        · rename_i h0
          injection hop with hop
          injection hop with e1 e2
          subst e1 e2
          exact d1 h0
        · injection hop with hop
          injection hop with e1 e2
          subst e1 e2
          exact d2
      · cases hop
    · cases hop
  · rename_i t l c ho
    split at hop
    · rename_i elem n cp hu hl hc
      split at hop
      · rename_i sz bytes z hsz hby hz
        split at hop
        · rename_i hcond
          obtain ⟨d1, d2⟩ := make_done R H hB ho hu hl hc hsz hby hz hcond.1 hcond.2.1 hcond.2.2.1 hcond.2.2.2.1 hcond.2.2.2.2.1 hcond.2.2.2.2.2
          split at hop
          · rename_i h0
            injection hop with hop
            injection hop with e1 e2
            subst e1 e2
            exact d1 h0
          · injection hop with hop
            injection hop with e1 e2
            subst e1 e2
            exact d2
        · cases hop
      · cases hop
    · cases hop
  · rename_i args ats ho
    split at hop
    · rename_i s x ts tx hargs hats
      split at hop
      · rename_i elem dx p y hs hx hp hy
        split at hop
        · rename_i sz hsz
          split at hop
          · cases hop
          · rename_i hdx
            split at hop
            · rename_i m xs hel
              rw [arr2 hargs, arr2 hats] at ho
              exact append_done R H hB ho hs hx (fun k e => hdx k e) hp hy hsz hel hop
            · cases hop
        · cases hop
      · cases hop
    · cases hop
  · rename_i args ats ho
    split at hop
    · rename_i d x td tr hargs hats
      split at hop
      · rename_i elem b ver off n sz y hu hd hx
        split at hop
        · rename_i sz' hsz
          split at hop
          · rename_i m xs hel
            split at hop
            · rename_i hss
              subst hss
              rw [arr2 hargs] at ho
              obtain ⟨d1, d2⟩ := copy_done R H ho hats hu hd hx hsz hel
              split at hop
              · rename_i h0
                injection hop with hop
                injection hop with e1 e2
                subst e1 e2
                exact d1 h0
              · split at hop
                · rename_i h1 hst
                  injection hop with hop
                  injection hop with e1 e2
                  subst e1 e2
                  exact d2 _ hst
                · cases hop
            · cases hop
          · cases hop
        · cases hop
      · cases hop
    · cases hop
  · rename_i args ats ho
    split at hop
    · rename_i k0 n pt tr hm hat
      split at hop
      · rename_i h0
        subst h0
        injection hop with hop
        injection hop with e1 e2
        subst e1 e2
        exact ustr_nil R H ho hat hm
      · cases hop
    · rename_i b ver off k0 n pt tr hm hat
      split at hop
      · rename_i k el hk hu
        split at hop
        · rename_i hcond
          obtain ⟨c1, c2, c3, c4, c5⟩ := hcond
          split at hop
          · rename_i bs hbs
            injection hop with hop
            injection hop with e1 e2
            subst e1 e2
            exact ustr_done R H ho hat hm hk hu c1 c2 c3 c4 c5 hbs
          · cases hop
        · cases hop
      · cases hop
    · cases hop
  · cases hop

end
end Go.Abs
