/- Operators: what the interpreter finds is what the model finds. -/
import Derived.Test.YthiogecmahdmcaaGreatDoorRfxP1
import Derived.Laws.StructEq
set_option linter.unusedVariables false
set_option linter.unusedSimpArgs false
namespace Go.Abs
open Go.RowKit

section
variable {P : Program} {Γ : Ctx} {W : World}

/-- The value that a number, a bool, a string stands for. -/
def conc : AV → Value
  | .int k n => .int k n
  | .bool b => .bool b
  | .str s => .string s
  | _ => undef

theorem intOp_rep {op : BinOp} {k : IntKind} {a b : Int} {t : TypeId} {v : AV} (h : intOp op k a b = some v) (h1 : op ≠ .shl) (h2 : op ≠ .shr) :
    ∃ v', (binOp op t (.int k a) (.int k b)).run P W = .ok v' W ∧ Rep Γ W v v' := by
  refine ⟨conc v, ?_, ?_⟩
  · cases op <;> simp only [intOp] at h <;> first
      | exact absurd rfl h1
      | exact absurd rfl h2
      | (injection h with h; subst h; simp [binOp, Op.intArith, Op.intBits, Op.intCmp, conc]; done)
      | (split at h
         · cases h
         · rename_i hb
           injection h with h
           subst h
           simp [binOp, Op.intDiv, hb, conc])
      | cases h
  · cases op <;> simp only [intOp] at h <;> first
      | (injection h with h; subst h; exact .cl _ _ (by constructor))
      | (split at h
         · cases h
         · injection h with h
           subst h
           exact .cl _ _ (by constructor))
      | cases h

theorem shiftOp_rep {op : BinOp} {k k' : IntKind} {a b : Int} {t : TypeId} {v : AV} (h : shiftOp op k a b = some v) :
    ∃ v', (binOp op t (.int k a) (.int k' b)).run P W = .ok v' W ∧ Rep Γ W v v' := by
  unfold shiftOp at h
  split at h
  · cases h
  · rename_i hb
    split at h
    · injection h with h
      subst h
      exact ⟨.int k (k.wrap (a * 2 ^ min b.toNat k.bits)), by simp [binOp, Op.shift, hb], .cl _ _ (by constructor)⟩
    · injection h with h
      subst h
      exact ⟨.int k (a.fdiv (2 ^ min b.toNat k.bits)), by simp [binOp, Op.shift, hb], .cl _ _ (by constructor)⟩
    · cases h

theorem strOp_rep {op : BinOp} {a b : ByteArray} {t : TypeId} {v : AV} (h : strOp op a b = some v) :
    ∃ v', (binOp op t (.string a) (.string b)).run P W = .ok v' W ∧ Rep Γ W v v' := by
  refine ⟨conc v, ?_, ?_⟩
  · cases op <;> simp only [strOp] at h <;> first
      | (injection h with h; subst h; simp [binOp, Op.stringOp, conc]; done)
      | (split at h
         · rename_i hb
           injection h with h
           subst h
           have : ¬ ((a.size + b.size : Nat) : Int) > IntKind.i64.max := by
             have e : IntKind.i64.max = 9223372036854775807 := rfl
             omega
           simp only [binOp, Op.stringOp]
           rw [if_neg this]
           rfl
         · cases h)
      | cases h
  · cases op <;> simp only [strOp] at h <;> first
      | (injection h with h; subst h; exact .cl _ _ (by constructor))
      | (split at h
         · injection h with h
           subst h
           exact .cl _ _ (by constructor)
         · cases h)
      | cases h

theorem unA_rep {op : UnOp} {x v : AV} {vx : Value} (h : unA op x = some v) (hx : Rep Γ W x vx) :
    ∃ v', (Op.unary op vx).run P W = .ok v' W ∧ Rep Γ W v v' := by
  unfold unA at h
  split at h
  · injection h with h
    subst h
    obtain rfl := rep_int hx
    exact ⟨_, rfl, .cl _ _ (.int _ _)⟩
  · rename_i k n
    obtain rfl := rep_int hx
    simp only [intOp, Option.some.injEq] at h
    subst h
    exact ⟨_, rfl, .cl _ _ (.int _ _)⟩
  · injection h with h
    subst h
    obtain rfl := rep_bool hx
    exact ⟨_, rfl, .cl _ _ (.bool _)⟩
  · cases h

theorem eqFields_rep {D : Nat} {eq : TypeId → AV → AV → Option Bool} {xs ys : List AV} {ws us : List Value}
    (heq : ∀ t x y r vx vy, eq t x y = some r → Rep Γ W x vx → Rep Γ W y vy → (Op.equalIn D t vx vy).run P W = .ok r W)
    (h1 : ws.length = xs.length) (h2 : ∀ (i : Nat) x, xs[i]? = some x → one x = true) (h3 : ∀ (i : Nat) x y, xs[i]? = some x → ws[i]? = some y → Rep Γ W x y)
    (k1 : us.length = ys.length) (k2 : ∀ (i : Nat) x, ys[i]? = some x → one x = true) (k3 : ∀ (i : Nat) x y, ys[i]? = some x → us[i]? = some y → Rep Γ W x y) :
    ∀ (fs : List Field) (r : Bool), eqIn.eqFields P eq fs xs ys = some r → (Op.eqFields D ws.toArray us.toArray fs).run P W = .ok r W
  | [], r, h => by
    simp only [eqIn.eqFields, Option.some.injEq] at h
    subst h
    rfl
  | f :: fs, r, h => by
    simp only [eqIn.eqFields] at h
    simp only [Op.eqFields]
    split at h
    · rename_i hn
      rw [if_neg (by simpa using hn)]
      exact eqFields_rep heq h1 h2 h3 k1 k2 k3 fs r h
    · rename_i hn
      rw [if_pos hn]
      split at h
      · rename_i a b ha hb
        obtain ⟨va, ra, pa, _⟩ := partL_rep ha h1 h2 h3
        obtain ⟨vb, rb, pb, _⟩ := partL_rep hb k1 k2 k3
        simp only [Sem.run_bind, ra, rb, Result.andThen_ok]
        split at h
        · rename_i he
          rw [heq _ _ _ _ _ _ he pa pb]
          simp only [Result.andThen_ok, Bool.not_true, Bool.false_eq_true, if_false]
          exact eqFields_rep heq h1 h2 h3 k1 k2 k3 fs r h
        · rename_i he
          injection h with h
          subst h
          rw [heq _ _ _ _ _ _ he pa pb]
          simp
        · cases h
      · cases h

theorem eqIn_rep : ∀ (d D : Nat) (t : TypeId) (x y : AV) (r : Bool) (vx vy : Value), d ≤ D → eqIn P d t x y = some r → Rep Γ W x vx → Rep Γ W y vy →
    (Op.equalIn D t vx vy).run P W = .ok r W
  | 0, _, _, _, _, _, _, _, _, h, _, _ => by simp [eqIn] at h
  | d + 1, 0, _, _, _, _, _, _, hd, _, _, _ => by omega
  | d + 1, D + 1, t, x, y, r, vx, vy, hd, h, hx, hy => by
    simp only [eqIn] at h
    split at h
    · rename_i hu
      split at h
      · injection h with h
        subst h
        obtain rfl := rep_bool hx
        obtain rfl := rep_bool hy
        simp [Op.equalIn, run_underlyingA hu]
      · cases h
    · rename_i k hu
      split at h
      · split at h
        · rename_i hk
          injection h with h
          subst h
          obtain rfl := rep_int hx
          obtain rfl := rep_int hy
          simp [Op.equalIn, run_underlyingA hu, hk]
        · cases h
      · cases h
    · rename_i hu
      split at h
      · injection h with h
        subst h
        obtain rfl := rep_str hx
        obtain rfl := rep_str hy
        simp [Op.equalIn, run_underlyingA hu]
      · cases h
    · rename_i e hu
      split at h <;> first | (cases h; done) | (injection h with h; subst h)
      · obtain rfl := rep_nilsl hx
        obtain rfl := rep_nilsl hy
        simp [Op.equalIn, run_underlyingA hu]
      · obtain rfl := rep_nilsl hx
        obtain ⟨a, cap, vs, rfl, _⟩ := rep_imm hy
        simp [Op.equalIn, run_underlyingA hu]
      · obtain rfl := rep_nilsl hx
        obtain ⟨a, cap, rfl, _⟩ := rep_own hy
        simp [Op.equalIn, run_underlyingA hu]
      · obtain rfl := rep_nilsl hy
        obtain ⟨a, cap, vs, rfl, _⟩ := rep_imm hx
        simp [Op.equalIn, run_underlyingA hu]
      · obtain rfl := rep_nilsl hy
        obtain ⟨a, cap, rfl, _⟩ := rep_own hx
        simp [Op.equalIn, run_underlyingA hu]
    · rename_i e hu
      split at h <;> first | (cases h; done) | (injection h with h; subst h)
      · obtain rfl := rep_nilptr hx
        obtain rfl := rep_nilptr hy
        simp [Op.equalIn, run_underlyingA hu]
      · obtain rfl := rep_nilptr hx
        obtain ⟨a, rfl, _⟩ := rep_ptr hy
        simp [Op.equalIn, run_underlyingA hu]
      · obtain rfl := rep_nilptr hx
        obtain ⟨a, vs, rfl, _⟩ := rep_iptr hy
        simp [Op.equalIn, run_underlyingA hu]
      · obtain rfl := rep_nilptr hy
        obtain ⟨a, rfl, _⟩ := rep_ptr hx
        simp [Op.equalIn, run_underlyingA hu]
      · obtain rfl := rep_nilptr hy
        obtain ⟨a, vs, rfl, _⟩ := rep_iptr hx
        simp [Op.equalIn, run_underlyingA hu]
    · rename_i ps rs vd hu
      split at h <;> first | (cases h; done) | (injection h with h; subst h)
      · obtain rfl := rep_nilfn hx
        obtain rfl := rep_nilfn hy
        simp [Op.equalIn, run_underlyingA hu]
      · obtain rfl := rep_nilfn hx
        obtain ⟨ws, rfl, _⟩ := rep_fn hy
        simp [Op.equalIn, run_underlyingA hu]
      · obtain rfl := rep_nilfn hy
        obtain ⟨ws, rfl, _⟩ := rep_fn hx
        simp [Op.equalIn, run_underlyingA hu]
    · rename_i fs hu
      split at h
      · rename_i xs ys
        split at h
        · cases h
        · rename_i hst
          obtain ⟨ws, rfl, h1, h2, h3⟩ := rep_agg hx
          obtain ⟨us, rfl, k1, k2, k3⟩ := rep_agg hy
          have hf : P.fieldsOf t = fs := by simp [Program.fieldsOf, hu]
          rw [run_equalIn_struct W D t _ _ (by rw [hf]; exact hu) (by simpa using hst), hf]
          exact eqFields_rep (fun t x y r vx vy he px py => eqIn_rep d D t x y r vx vy (by omega) he px py) h1 h2 h3 k1 k2 k3 fs.toList r h
      · cases h
    · cases h

theorem eqIn_any (d : Nat) (t : TypeId) (x y : AV) (r : Bool) (h : eqIn P d t x y = some r) : x ≠ .any ∧ y ≠ .any := by
  cases d with
  | zero => cases h
  | succ d =>
    refine ⟨fun e => ?_, fun e => ?_⟩
    · subst e
      simp only [eqIn] at h
      split at h <;> cases h
    · subst e
      simp only [eqIn] at h
      split at h <;> cases x <;> cases h

theorem eqOp_any {t : TypeId} {x y : AV} {r : Bool} (h : eqOp P t x y = some r) : x ≠ .any ∧ y ≠ .any := by
  unfold eqOp at h
  split at h
  · exact ⟨(fun e => by cases e), (fun e => by cases e)⟩
  · exact eqIn_any _ _ _ _ _ h

theorem eqOp_rep {t : TypeId} {x y : AV} {r : Bool} {vx vy : Value} (h : eqOp P t x y = some r) (hx : Rep Γ W x vx) (hy : Rep Γ W y vy) :
    (Op.equalIn 10000 t vx vy).run P W = .ok r W ∧ (∀ (op : BinOp) (ox oy : Operand), (eqGuard op t ox oy vx vy).run P W = .ok () W) := by
  obtain ⟨hxa, hya⟩ := eqOp_any h
  unfold eqOp at h
  split at h
  · split at h
    · cases h
    · rename_i hg
      obtain ⟨ws, rfl, _⟩ := rep_agg hx
      obtain ⟨us, rfl, _⟩ := rep_agg hy
      exact ⟨eqIn_rep 16 10000 t _ _ r _ _ (by omega) h hx hy, fun op ox oy => run_eqGuard_agg W op t ox oy _ _ (by simpa using hg)⟩
  · rename_i hn
    refine ⟨eqIn_rep 16 10000 t _ _ r _ _ (by omega) h hx hy, fun op ox oy => ?_⟩
    have hi : ∀ l m, vx = .agg l → vy = .agg m → False := by
      intro l m e1 e2
      subst e1 e2
      have a1 : ∃ l, x = .agg l := by
        cases hx with
        | cl _ _ hx => cases hx; exact ⟨_, rfl⟩
        | agg => exact ⟨_, rfl⟩
        | any => exact absurd rfl hxa
      have a2 : ∃ l, y = .agg l := by
        cases hy with
        | cl _ _ hy => cases hy; exact ⟨_, rfl⟩
        | agg => exact ⟨_, rfl⟩
        | any => exact absurd rfl hya
      obtain ⟨l1, rfl⟩ := a1
      obtain ⟨l2, rfl⟩ := a2
      exact hn _ _ rfl rfl
    have hnil : vx = .nilIface → False := by
      intro e
      subst e
      have : x = .nilif := by
        cases hx with
        | cl _ _ hx => cases hx; rfl
        | any => exact absurd rfl hxa
      subst this
      simp only [eqIn] at h
      split at h <;> first | (cases h; done) | (split at h <;> first | (cases h; done) | (split at h <;> cases h) | skip)
      all_goals simp_all
    unfold eqGuard
    cases op <;> simp <;> (split <;> first | rfl | exact (hnil rfl).elim | exact (hi _ _ rfl rfl).elim)

theorem ints {x y : AV} {k k' : IntKind} {a b : Int} (hx : Rep Γ W x (.int k a)) (hy : Rep Γ W y (.int k' b)) (hxa : x ≠ .any) (hya : y ≠ .any)
    (h : ∀ (k : IntKind) (a : Int) (k' : IntKind) (b : Int), x = .int k a → y = .int k' b → False) : False := by
  have a1 : x = .int k a := by
    cases hx with
    | cl _ _ hx => cases hx; rfl
    | any => exact absurd rfl hxa
  have a2 : y = .int k' b := by
    cases hy with
    | cl _ _ hy => cases hy; rfl
    | any => exact absurd rfl hya
  exact h _ _ _ _ a1 a2
theorem strs {x y : AV} {a b : ByteArray} (hx : Rep Γ W x (.string a)) (hy : Rep Γ W y (.string b)) (hxa : x ≠ .any) (hya : y ≠ .any) (h : ∀ (a b : ByteArray), x = .str a → y = .str b → False) : False := by
  have a1 : x = .str a := by
    cases hx with
    | cl _ _ hx => cases hx; rfl
    | any => exact absurd rfl hxa
  have a2 : y = .str b := by
    cases hy with
    | cl _ _ hy => cases hy; rfl
    | any => exact absurd rfl hya
  exact h _ _ a1 a2
/-- Values that stand for something are no floats and no complex numbers. -/
theorem Rep.noFloat {x : AV} {v : Value} (h : Rep Γ W x v) (hxa : x ≠ .any) : (∀ k b, v ≠ .float k b) ∧ (∀ k r i, v ≠ .complex k r i) := by
  cases h with
  | cl _ _ h => cases h <;> exact ⟨fun _ _ => by simp, fun _ _ _ => by simp⟩
  | own => exact ⟨fun _ _ => by simp, fun _ _ _ => by simp⟩
  | ptr => exact ⟨fun _ _ => by simp, fun _ _ _ => by simp⟩
  | agg => exact ⟨fun _ _ => by simp, fun _ _ _ => by simp⟩
  | tup => exact ⟨fun _ _ => by simp, fun _ _ _ => by simp⟩
  | fn => exact ⟨fun _ _ => by simp, fun _ _ _ => by simp⟩
  | any => exact absurd rfl hxa
theorem binOp_eql {t : TypeId} {x y : AV} {vx vy : Value} {r : Bool} (h : (Op.equalIn 10000 t vx vy).run P W = .ok r W)
    (h1 : ∀ (k : IntKind) (a : Int) (k' : IntKind) (b : Int), vx = .int k a → vy = .int k' b → False) (h2 : ∀ (a b : ByteArray), vx = .string a → vy = .string b → False) (hx : Rep Γ W x vx) (hy : Rep Γ W y vy) (hxa : x ≠ .any) :
    (binOp .eql t vx vy).run P W = .ok (.bool r) W := by
  obtain ⟨f1, f2⟩ := hx.noFloat hxa
  unfold binOp
  split <;> first
    | (rename_i e; cases e; done)
    | exact (h1 _ _ _ _ rfl rfl).elim
    | exact (h2 _ _ rfl rfl).elim
    | exact absurd rfl (f1 _ _)
    | exact absurd rfl (f2 _ _ _)
    | (simp [Op.equal, Op.maxDepth, h]; done)
    | simp_all
theorem binOp_neq {t : TypeId} {x y : AV} {vx vy : Value} {r : Bool} (h : (Op.equalIn 10000 t vx vy).run P W = .ok r W)
    (h1 : ∀ (k : IntKind) (a : Int) (k' : IntKind) (b : Int), vx = .int k a → vy = .int k' b → False) (h2 : ∀ (a b : ByteArray), vx = .string a → vy = .string b → False) (hx : Rep Γ W x vx) (hy : Rep Γ W y vy) (hxa : x ≠ .any) :
    (binOp .neq t vx vy).run P W = .ok (.bool (!r)) W := by
  obtain ⟨f1, f2⟩ := hx.noFloat hxa
  unfold binOp
  split <;> first
    | (rename_i e; cases e; done)
    | exact (h1 _ _ _ _ rfl rfl).elim
    | exact (h2 _ _ rfl rfl).elim
    | exact absurd rfl (f1 _ _)
    | exact absurd rfl (f2 _ _ _)
    | (simp [Op.equal, Op.maxDepth, h]; done)
    | simp_all
theorem binA_rep {op : BinOp} {t : TypeId} {x y v : AV} {vx vy : Value} (h : binA P op t x y = some v) (hx : Rep Γ W x vx) (hy : Rep Γ W y vy) (ox oy : Operand) :
    ∃ v', (do eqGuard op t ox oy vx vy; binOp op t vx vy : Sem Value).run P W = .ok v' W ∧ Rep Γ W v v' := by
  unfold binA at h
  split at h
  · rename_i k a k' b
    obtain rfl := rep_int hx
    obtain rfl := rep_int hy
    have hg : (eqGuard op t ox oy (.int k a) (.int k' b)).run P W = .ok () W := by
      unfold eqGuard
      cases op <;> simp
    rw [Sem.run_bind, hg, Result.andThen_ok]
    split at h
    · exact shiftOp_rep h
    · exact shiftOp_rep h
    · rename_i h1 h2
      split at h
      · rename_i hk
        subst hk
        exact intOp_rep h (fun e => h1 e) (fun e => h2 e)
      · cases h
  · rename_i a b
    obtain rfl := rep_str hx
    obtain rfl := rep_str hy
    have hg : (eqGuard op t ox oy (.string a) (.string b)).run P W = .ok () W := by
      unfold eqGuard
      cases op <;> simp
    rw [Sem.run_bind, hg, Result.andThen_ok]
    exact strOp_rep h
  · rename_i hni hns
    split at h
    · rw [Option.map_eq_some_iff] at h
      obtain ⟨r, hr, rfl⟩ := h
      obtain ⟨h1, h2⟩ := eqOp_rep hr hx hy
      obtain ⟨hxa, hya⟩ := eqOp_any hr
      rw [Sem.run_bind, h2, Result.andThen_ok]
      refine ⟨.bool r, ?_, .cl _ _ (.bool r)⟩
      exact binOp_eql h1 (fun k a k' b e1 e2 => by subst e1 e2; exact ints hx hy hxa hya hni) (fun a b e1 e2 => by subst e1 e2; exact strs hx hy hxa hya hns) hx hy hxa
    · rw [Option.map_eq_some_iff] at h
      obtain ⟨r, hr, rfl⟩ := h
      obtain ⟨h1, h2⟩ := eqOp_rep hr hx hy
      obtain ⟨hxa, hya⟩ := eqOp_any hr
      rw [Sem.run_bind, h2, Result.andThen_ok]
      refine ⟨.bool (!r), ?_, .cl _ _ (.bool (!r))⟩
      exact binOp_neq h1 (fun k a k' b e1 e2 => by subst e1 e2; exact ints hx hy hxa hya hni) (fun a b e1 e2 => by subst e1 e2; exact strs hx hy hxa hya hns) hx hy hxa
    · cases h
end
end Go.Abs
