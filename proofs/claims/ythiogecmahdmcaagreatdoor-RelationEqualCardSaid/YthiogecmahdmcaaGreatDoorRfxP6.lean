/- Operations that want no heap: the theorem. -/
import Derived.Test.YthiogecmahdmcaaGreatDoorRfxP5
import Derived.Lib.UnsafeStr
set_option linter.unusedVariables false
set_option linter.unusedSimpArgs false
namespace Go.Abs
open Go.RowKit

section
variable {P : Program} {Γ : Ctx} {W : World}

theorem opP_rep {own : Bool} {T : List AV} {a : Act} {o : Oper} {v : AV} (R : ActRel Γ W T a) (h : opP P own (evA T) o.op = some v) (hb : ∀ t n p, o.op ≠ .buildSlice t n p) :
    ∃ v', (execOp a.eval o).run P W = .ok (.value v') W ∧ Rep Γ W v v' := by
  obtain ⟨dst, op, type, pos, after, guard⟩ := o
  simp only at h hb
  unfold opP at h
  split at h
  · -- move
    exact ⟨_, rfl, evA_rep R h⟩
  · -- assign
    exact ⟨_, rfl, evA_rep R h⟩
  · -- pick
    rename_i c x y
    split at h
    · rename_i t hc
      have hcv := rep_bool (evA_rep R hc)
      cases t with
      | true => exact ⟨a.eval x, by simp [execOp, hcv, asBool], evA_rep R (by simpa using h)⟩
      | false => exact ⟨a.eval y, by simp [execOp, hcv, asBool], evA_rep R (by simpa using h)⟩
    · cases h
  · -- load
    rename_i t x
    split at h
    · rename_i l hx
      obtain ⟨ad, vs, he, h1, h2⟩ := rep_iptr (evA_rep R hx)
      have hl : LiesAt Γ W l ad vs := fun i x hx => by
        obtain ⟨e1, e2, e3, e4⟩ := h1 i x hx
        exact ⟨one_of_c1 e1, by rw [add_eq e2]; exact e4, .cl _ _ (h2 i x hx)⟩
      obtain ⟨v', hr, hv⟩ := loadL_rep h hl
      exact ⟨v', by simp [execOp, Instr.loadAt, he, Instr.sureAddr, hr], hv⟩
    · cases h
  · -- build
    rename_i t parts
    split at h
    · rename_i ps hps
      obtain ⟨h1, h2⟩ := partsO_rep R hps
      obtain ⟨v', hr, hv⟩ := buildP_rep h h1 h2
      exact ⟨v', by simp only [execOp, Sem.run_bind, hr, Result.andThen_ok, Sem.run_pure], hv⟩
    · cases h
  · -- buildSlice
    exact absurd rfl (hb _ _ _)
  · -- nilCheck
    rename_i x
    split at h
    · rename_i b w off hx
      injection h with h
      subst h
      have hr := evA_rep R hx
      obtain ⟨ad, he, _⟩ := rep_ptr hr
      exact ⟨a.eval x, by simp [execOp, he], hr⟩
    · rename_i l hx
      injection h with h
      subst h
      have hr := evA_rep R hx
      obtain ⟨ad, vs, he, _⟩ := rep_iptr hr
      exact ⟨a.eval x, by simp [execOp, he], hr⟩
    · rename_i f c hx
      injection h with h
      subst h
      have hr := evA_rep R hx
      obtain ⟨ws, he, _⟩ := rep_fn hr
      exact ⟨a.eval x, by simp [execOp, he], hr⟩
    · cases h
  · -- binOp
    rename_i op t x y yt
    split at h
    · rename_i p q hx hy
      obtain ⟨v', hr, hv⟩ := binA_rep h (evA_rep R hx) (evA_rep R hy) x y
      exact ⟨v', by simp only [execOp, Sem.run_bind] at hr ⊢; simp [hr], hv⟩
    · cases h
  · -- unOp
    rename_i op t x
    split at h
    · rename_i p hx
      obtain ⟨v', hr, hv⟩ := unA_rep (P := P) h (evA_rep R hx)
      exact ⟨v', by simp [execOp, hr], hv⟩
    · cases h
  · -- convert
    rename_i src dst' x
    split at h
    · rename_i ds k k2 n hu1 hu2 hx
      injection h with h
      subst h
      have he := rep_int (evA_rep R hx)
      exact ⟨.int k (k.wrap n), by simp [execOp, convert, run_underlyingA hu1, run_underlyingA hu2, he, Conv.intToInt], .cl _ _ (.int _ _)⟩
    · rename_i ds s hu1 hu2 hx
      injection h with h
      subst h
      have he := rep_str (evA_rep R hx)
      refine ⟨.string s, ?_, .cl _ _ (.str _)⟩
      simp only [execOp, convert, Sem.run_bind, run_underlyingA hu1, run_underlyingA hu2, he, Result.andThen_ok]
      cases ds <;> rfl
    · cases h
  · -- makeFunc
    rename_i f first caps
    split at h
    · rename_i hf
      rw [Option.map_eq_some_iff] at h
      obtain ⟨l, hl, rfl⟩ := h
      obtain ⟨h1, h2⟩ := mapO_evA R hl
      have hf' : first = #[] := by simpa using hf
      subst hf'
      refine ⟨.func (.func f) #[] (caps.toList.map a.eval).toArray, ?_, .fn _ _ _ h1 h2⟩
      simp only [execOp, Instr.makeFunc, Sem.run_bind, Sem.run_pure, Result.andThen_ok]
      congr 3
      · simp
      · apply Array.ext'
        simp
    · cases h
  · -- slice
    rename_i t x lo hi mx
    split at h
    · rename_i p hx
      obtain ⟨v', hr, hv⟩ := sliceP_rep h (evA_rep R hx) (optO_rep R lo) (optO_rep R hi) (optO_rep R mx)
      exact ⟨v', by simp [execOp, hr], hv⟩
    · cases h
  · -- fieldAddr
    rename_i s x f
    split at h
    · rename_i fd b w off hfd hx
      obtain ⟨fs, hu, hf⟩ := fieldOf_run hfd
      obtain ⟨ad, he, hb, hg⟩ := rep_ptr (evA_rep R hx)
      split at h
      · rename_i n hn
        split at h
        · cases h
        · rename_i hn0
          injection h with h
          subst h
          refine ⟨.pointer (some (ad.add fd.offset)), by simp [execOp, Instr.fieldAt, run_underlyingA hu, hf, he, Instr.sureAddr, fieldPlace, run_sizeOfA hn, hn0], .ptr _ _ _ _ hb (fun q hq => ⟨(hg q hq).1, fun hv => ?_⟩)⟩
          rw [(hg q hq).2 hv, add_eq rfl]
          simp [Nat.add_assoc]
      · cases h
    · rename_i fd l hfd hx
      obtain ⟨fs, hu, hf⟩ := fieldOf_run hfd
      obtain ⟨ad, vs, he, h1, h2⟩ := rep_iptr (evA_rep R hx)
      split at h
      · rename_i n hn
        split at h
        · cases h
        · rename_i hn0
          injection h with h
          subst h
          exact ⟨.pointer (some (ad.add fd.offset)), by simp [execOp, Instr.fieldAt, run_underlyingA hu, hf, he, Instr.sureAddr, fieldPlace, run_sizeOfA hn, hn0], iptr_drop (n := 0) h1 h2⟩
      · cases h
    · cases h
  · -- field
    rename_i s x f
    split at h
    · rename_i fd l hfd hx
      obtain ⟨fs, hu, hf⟩ := fieldOf_run hfd
      obtain ⟨ws, he, h1, h2, h3⟩ := rep_agg (evA_rep R hx)
      obtain ⟨v', hr, hv, _⟩ := partL_rep h h1 h2 h3
      exact ⟨v', by simp [execOp, Instr.field, run_underlyingA hu, hf, he, asAgg, hr], hv⟩
    · cases h
  · -- indexAddr
    rename_i t x i
    split at h
    · rename_i p q hx hi
      obtain ⟨v', hr, hv⟩ := indexAddrP_rep h (evA_rep R hx) (evA_rep R hi)
      exact ⟨v', by simp [execOp, hr], hv⟩
    · cases h
  · -- index
    rename_i t x i
    split at h
    · rename_i p q hx hi
      obtain ⟨v', hr, hv⟩ := indexP_rep h (evA_rep R hx) (evA_rep R hi)
      exact ⟨v', by simp [execOp, hr], hv⟩
    · cases h
  · -- extract
    rename_i t i
    split at h
    · rename_i l hx
      obtain ⟨ws, he, h1, h2⟩ := rep_tup (evA_rep R hx)
      have hi : i < ws.length := by rw [h1]; exact (List.getElem?_eq_some_iff.1 h).1
      exact ⟨ws[i], by simp [execOp, he, Instr.extract, hi], h2 i v _ h (List.getElem?_eq_getElem hi)⟩
    · cases h
  · -- len
    rename_i args argTypes
    split at h
    · rename_i x r t r' hxs hts
      have ea : args[0]? = some x := by rw [← Array.getElem?_toList, hxs]; rfl
      have et : argTypes[0]? = some t := by rw [← Array.getElem?_toList, hts]; rfl
      split at h
      · rename_i p hx
        have hr := evA_rep R hx
        unfold lenT at h
        split at h
        · rename_i s hu
          injection h with h
          subst h
          have he := rep_str hr
          exact ⟨.int .i64 s.size, by simp [execOp, resolve, invoke, builtin, Builtin.len_, ea, et, run_underlyingA hu, he, goInt], .cl _ _ (.int _ _)⟩
        · rename_i el hu
          injection h with h
          subst h
          have he := rep_nilsl hr
          exact ⟨.int .i64 0, by simp [execOp, resolve, invoke, builtin, Builtin.len_, ea, et, run_underlyingA hu, he, goInt], .cl _ _ (.int _ _)⟩
        · rename_i el tt n l hu
          injection h with h
          subst h
          obtain ⟨ad, cap, vs, he, _⟩ := rep_imm hr
          exact ⟨.int .i64 n, by simp [execOp, resolve, invoke, builtin, Builtin.len_, ea, et, run_underlyingA hu, he, goInt], .cl _ _ (.int _ _)⟩
        · rename_i el b w off n sz hu
          injection h with h
          subst h
          obtain ⟨ad, cap, he, _⟩ := rep_own hr
          exact ⟨.int .i64 n, by simp [execOp, resolve, invoke, builtin, Builtin.len_, ea, et, run_underlyingA hu, he, goInt], .cl _ _ (.int _ _)⟩
        · rename_i n el hu
          injection h with h
          subst h
          exact ⟨.int .i64 n, by simp [execOp, resolve, invoke, builtin, Builtin.len_, ea, et, run_underlyingA hu, goInt], .cl _ _ (.int _ _)⟩
        · cases h
      · cases h
    · cases h
  · -- cap
    rename_i args argTypes
    split at h
    · rename_i x r t r' hxs hts
      have ea : args[0]? = some x := by rw [← Array.getElem?_toList, hxs]; rfl
      have et : argTypes[0]? = some t := by rw [← Array.getElem?_toList, hts]; rfl
      split at h
      · rename_i p hx
        have hr := evA_rep R hx
        split at h
        · rename_i el hu
          injection h with h
          subst h
          have he := rep_nilsl hr
          exact ⟨.int .i64 0, by simp [execOp, resolve, invoke, builtin, Builtin.cap_, ea, et, run_underlyingA hu, he, goInt], .cl _ _ (.int _ _)⟩
        · rename_i el n l hu
          injection h with h
          subst h
          obtain ⟨ad, cap, vs, he, _, ht, _⟩ := rep_imm hr
          have := ht rfl
          subst this
          exact ⟨.int .i64 cap, by simp [execOp, resolve, invoke, builtin, Builtin.cap_, ea, et, run_underlyingA hu, he, goInt], .cl _ _ (.int _ _)⟩
        · cases h
      · cases h
    · cases h
  · -- max
    rename_i args argTypes
    split at h
    · rename_i p r hm
      obtain ⟨h1, h2⟩ := mapO_evA R hm
      cases hargs : args.toList.map a.eval with
      | nil => rw [hargs] at h1; simp at h1
      | cons u us =>
        rw [hargs] at h1 h2
        obtain ⟨v', hr, hv⟩ := foldO_rep (P := P) (fun x y z vx vy => max2_rep) r us p v u h (h2 0 _ _ rfl rfl) (by simpa using h1) (fun i y u hy hu => h2 (i + 1) y u (by simpa using hy) (by simpa using hu))
        refine ⟨v', ?_, hv⟩
        have : (args.map a.eval).toList = u :: us := by rw [Array.toList_map]; exact hargs
        simp only [execOp, resolve, Sem.run_bind, Sem.run_pure, Result.andThen_ok, invoke, builtin, Builtin.max_, this, hr]
    · cases h
  · -- min
    rename_i args argTypes
    split at h
    · rename_i p r hm
      obtain ⟨h1, h2⟩ := mapO_evA R hm
      cases hargs : args.toList.map a.eval with
      | nil => rw [hargs] at h1; simp at h1
      | cons u us =>
        rw [hargs] at h1 h2
        obtain ⟨v', hr, hv⟩ := foldO_rep (P := P) (fun x y z vx vy => min2_rep) r us p v u h (h2 0 _ _ rfl rfl) (by simpa using h1) (fun i y u hy hu => h2 (i + 1) y u (by simpa using hy) (by simpa using hu))
        refine ⟨v', ?_, hv⟩
        have : (args.map a.eval).toList = u :: us := by rw [Array.toList_map]; exact hargs
        simp only [execOp, resolve, Sem.run_bind, Sem.run_pure, Result.andThen_ok, invoke, builtin, Builtin.min_, this, hr]
    · cases h
  · -- unsafeSliceData
    rename_i args argTypes
    split at h
    · rename_i b w off n sz hm
      split at h
      · cases h
      · rename_i hn0
        injection h with h
        subst h
        obtain ⟨h1, h2⟩ := mapO_evA R hm
        cases hargs : args.toList.map a.eval with
        | nil => rw [hargs] at h1; simp at h1
        | cons u us =>
          rw [hargs] at h1 h2
          obtain rfl : us = [] := List.eq_nil_of_length_eq_zero (by simpa using h1)
          obtain ⟨ad, cap, rfl, hb, hn, hg⟩ := rep_own (h2 0 _ _ rfl rfl)
          have : args.map a.eval = #[.slice (some ad) n cap] := by apply Array.ext'; rw [Array.toList_map]; exact hargs
          refine ⟨.pointer (some ad), ?_, .ptr _ _ _ _ hb (fun q hq => ⟨(hg q hq).1, fun hv => ((hg q hq).2 hv).1⟩)⟩
          simp only [execOp, resolve, Sem.run_bind, Sem.run_pure, Result.andThen_ok, invoke, builtin, this, Lib.run_unsafeSliceData_row W _ _ ad n cap (by omega)]
    · rename_i hm
      injection h with h
      subst h
      obtain ⟨h1, h2⟩ := mapO_evA R hm
      cases hargs : args.toList.map a.eval with
      | nil => rw [hargs] at h1; simp at h1
      | cons u us =>
        rw [hargs] at h1 h2
        obtain rfl : us = [] := List.eq_nil_of_length_eq_zero (by simpa using h1)
        obtain rfl := rep_nilsl (h2 0 _ _ rfl rfl)
        have : args.map a.eval = #[.slice none 0 0] := by apply Array.ext'; rw [Array.toList_map]; exact hargs
        refine ⟨.pointer none, ?_, .cl _ _ .nilptr⟩
        simp only [execOp, resolve, Sem.run_bind, Sem.run_pure, Result.andThen_ok, invoke, builtin, this, Lib.run_unsafeSliceData_nil]
    · cases h
  · cases h
end
end Go.Abs
