/- The operations, one by one. -/
import Derived.Test.YtkdkpfnglogpdaaVMd
import Derived.WalkLawsBesides
import Derived.Laws.Strings
import Derived.Laws.StructEq
import Derived.Great.BuildSlice
set_option linter.unusedVariables false
set_option linter.unusedSimpArgs false
namespace VM
open Go

/-- A value of kind 'c' out of its cells. -/
def valV (c : CK) (us : List Value) : Value := bif c.isAgg then .agg us.toArray else us.headD undef
def isAggD : TypeDesc → Bool
  | .struct _ => true
  | .array _ _ => true
  | _ => false
def zeroV (c : CK) : Value := valV c c.zero

/-- The type 't' of the program is of kind 'c'. -/
structure TypeIs (P : Program) (t : TypeId) (c : CK) : Prop where
  ex : ∃ i d, P.info? t = some i ∧ P.underlying t = some d ∧ i.size = c.size ∧ i.zero = some (zeroV c) ∧ isAggD d = c.isAgg

/-- How the type of a map's key is described. -/
def keyD : CK → Option TypeDesc
  | .int k => some (.int k)
  | .bool => some .bool
  | .str => some .string
  | _ => none

/-- The fields, one cell each, one behind the other. -/
def EqF (P : Program) : CK → List Field → Nat → Prop
  | .unit, [], _ => True
  | .pair a b, f :: r, off => f.name ≠ "_" ∧ f.offset = off ∧ (∃ d, keyD a = some d ∧ P.underlying f.type = some d) ∧ TypeIs P f.type a ∧ EqF P b r (off + 1)
  | _, _, _ => False

structure TTok (P : Program) (tt : List (Nat × TD)) : Prop where
  is : ∀ t c b fs, look tt t = some (.val c b fs) → TypeIs P t c
  int : ∀ t k b fs, look tt t = some (.val (.int k) b fs) → P.underlying t = some (.int k)
  str : ∀ t b fs, look tt t = some (.val .str b fs) → P.underlying t = some .string
  bool : ∀ t b fs, look tt t = some (.val .bool b fs) → P.underlying t = some .bool
  elt : ∀ t k b fs, look tt t = some (.val (.sl (.int k)) b fs) → ∃ et, P.underlying t = some (.slice et) ∧ P.underlying et = some (.int k)
  sl : ∀ t e b fs, look tt t = some (.val (.sl e) b fs) → ∃ et, P.underlying t = some (.slice et) ∧ TypeIs P et e ∧ 0 < e.size ∧ ∃ i, P.info? et = some i ∧ i.bytes = b
  fld : ∀ t c b (fs : List (Nat × CK)) (f off : Nat) (d : CK), look tt t = some (.val c b fs) → fs[f]? = some (off, d) → ∃ (Fs : Array Field) (fl : Field), P.underlying t = some (.struct Fs) ∧ Fs[f]? = some fl ∧ fl.offset = off ∧ TypeIs P fl.type d ∧ 0 < d.size ∧ off + d.size ≤ c.size
  agg : ∀ t c b (fs : List (Nat × CK)), look tt t = some (.val c b fs) → c.isAgg = true → ∃ Fs : Array Field, P.underlying t = some (.struct Fs) ∧ Fs.size = fs.length ∧
    ∀ (f : Nat) (fl : Field), Fs[f]? = some fl → ∃ off d, fs[f]? = some (off, d) ∧ fl.offset = off ∧ TypeIs P fl.type d ∧ off + d.size ≤ c.size
  eqs : ∀ t c b fs, look tt t = some (.val c b fs) → c.cmp = true → ∃ Fs : List Field, P.underlying t = some (.struct Fs.toArray) ∧ P.stoodInHeld t = false ∧ P.eqGuardType P.depth t = false ∧ EqF P c Fs 0
  mp : ∀ t k e, look tt t = some (.map k e) → ∃ kt et d, P.underlying t = some (.map kt et) ∧ keyD k = some d ∧ P.underlying kt = some d ∧ TypeIs P et e ∧ e.pl = true

theorem TypeIs.size {P : Program} {t : TypeId} {c : CK} (h : TypeIs P t c) (w : World) : (Go.sizeOf t).run P w = .ok c.size w := by
  obtain ⟨i, d, h1, h2, h3, h4, h5⟩ := h.ex
  simp [Go.sizeOf, typeInfo, h1, h3]
theorem TypeIs.zeroV {P : Program} {t : TypeId} {c : CK} (h : TypeIs P t c) (w : World) : (zeroValue t).run P w = .ok (VM.zeroV c) w := by
  obtain ⟨i, d, h1, h2, h3, h4, h5⟩ := h.ex
  simp [zeroValue, typeInfo, h1, h4]
theorem TypeIs.agg {P : Program} {t : TypeId} {c : CK} (h : TypeIs P t c) (w : World) : (Go.isAgg t).run P w = .ok c.isAgg w := by
  obtain ⟨i, d, h1, h2, h3, h4, h5⟩ := h.ex
  simp only [Go.isAgg, Sem.run_bind, run_underlying h2, Result.andThen_ok]
  cases d <;> simp [isAggD] at h5 <;> simp [← h5]

def OpPost (P : Program) (o : Oper) (a : Act) (w : World) (Φ : Value → World → Prop) : Prop :=
  ∀ (next : Act → World → Prop) (Q : Exit → Act → World → Prop), (∀ v w', Φ v w' → next (a.put o.dst v) w') → o.wp P a w next Q

theorem OpPost.value {P : Program} {o : Oper} {a : Act} {w w' : World} {Φ : Value → World → Prop} {v : Value} (h : (execOp a.eval o).run P w = .ok (.value v) w') (hp : Φ v w') : OpPost P o a w Φ := by
  intro next Q hn
  unfold Oper.wp
  rw [h]
  exact hn v w' hp
theorem OpPost.skip {P : Program} {o : Oper} {a : Act} {w w' : World} {Φ : Value → World → Prop} (h : (execOp a.eval o).run P w = .ok .skip w') (hp : Φ undef w') : OpPost P o a w Φ := by
  intro next Q hn
  unfold Oper.wp
  rw [h]
  exact hn undef w' hp

/-- What an operation comes to. -/
def Post (F : Fx) (σ : St) (a : Act) (g : Gh) (u : Upd) (v : Value) (w' : World) : Prop :=
  ∃ g', Rl F ⟨σ.s, setH σ.h u.hs⟩ a w' g' ∧ SVr g' w' (setH σ.h u.hs) u.v v

theorem ofVals_sound (g : Gh) (w : World) (h : Nat → RE) : ∀ {l : List Value} {cs : List CV}, ofVals l = some cs → All2 (CVr g w h) cs l
  | [], cs, e => by simp only [ofVals, Option.some.injEq] at e; subst e; trivial
  | v :: l, cs, e => by
    cases v with
    | bool b =>
      simp only [ofVals, Option.map_eq_some_iff] at e
      obtain ⟨cs', h1, rfl⟩ := e
      exact ⟨rfl, ofVals_sound g w h h1⟩
    | int k n =>
      simp only [ofVals, Option.map_eq_some_iff] at e
      obtain ⟨cs', h1, rfl⟩ := e
      exact ⟨rfl, ofVals_sound g w h h1⟩
    | string s =>
      simp only [ofVals, Option.map_eq_some_iff] at e
      obtain ⟨cs', h1, rfl⟩ := e
      refine ⟨?_, ofVals_sound g w h h1⟩
      show Value.string s = strV s.data.toList
      simp [strV]
    | slice a n c =>
      match a, n, c with
      | none, 0, 0 =>
        simp only [ofVals, Option.map_eq_some_iff] at e
        obtain ⟨cs', h1, rfl⟩ := e
        exact ⟨rfl, ofVals_sound g w h h1⟩
      | some _, _, _ => simp [ofVals] at e
      | none, _ + 1, _ => simp [ofVals] at e
      | none, 0, _ + 1 => simp [ofVals] at e
    | _ => simp [ofVals] at e

theorem ofVal_sound (g : Gh) (w : World) (h : Nat → RE) (v : Value) : SVr g w h (ofVal v) v := by
  unfold ofVal
  split
  · rfl
  · rfl
  · show _ = strV _; simp [strV]
  · rfl
  · rename_i cs
    split
    · rename_i l hl
      exact ⟨cs.toList, by simp, ofVals_sound g w h hl⟩
    · trivial
  · trivial

theorem ev_sound {F : Fx} {σ : St} {a : Act} {w : World} {g : Gh} (r : Rl F σ a w g) (x : Operand) : SVr g w σ.h (σ.ev x) (a.eval x) := by
  cases x with
  | tmp t => exact r.sl t
  | const v => exact ofVal_sound g w σ.h v
  | global _ => trivial
  | func f => rfl

theorem Rl.same {F : Fx} {σ : St} {a : Act} {w : World} {g : Gh} (r : Rl F σ a w g) : Rl F ⟨σ.s, setH σ.h []⟩ a w g := r

theorem pure_post {F : Fx} {σ : St} {a : Act} {w : World} {g : Gh} (r : Rl F σ a w g) {v : SV} {x : Value} (h : SVr g w σ.h v x) : Post F σ a g ⟨v, []⟩ x w := ⟨g, r, h⟩

section
variable {P : Program} {F : Fx} {σ : St} {a : Act} {w : World} {g : Gh}

theorem run_binop_int {k : IntKind} {x y : Int} {op : BinOp} {o : Oper} {t t' : TypeId} {p q : Operand} (ho : o.op = .binOp op t p q t') (hp : a.eval p = .int k x) (hq : a.eval q = .int k y)
    {v : Value} (h : (binOp op t (.int k x) (.int k y)).run P w = .ok v w) : (execOp a.eval o).run P w = .ok (.value v) w := by
  unfold execOp
  rw [ho]
  simp only [hp, hq]
  have hg : (eqGuard op t p q (.int k x) (.int k y)).run P w = .ok () w := by
    unfold eqGuard
    cases op <;> simp
  simp [hg, h]

theorem run_binop_str {x y : ByteArray} {op : BinOp} {o : Oper} {t t' : TypeId} {p q : Operand} (ho : o.op = .binOp op t p q t') (hp : a.eval p = .string x) (hq : a.eval q = .string y)
    {v : Value} (h : (binOp op t (.string x) (.string y)).run P w = .ok v w) : (execOp a.eval o).run P w = .ok (.value v) w := by
  unfold execOp
  rw [ho]
  simp only [hp, hq]
  have hg : (eqGuard op t p q (.string x) (.string y)).run P w = .ok () w := by
    unfold eqGuard
    cases op <;> simp
  simp [hg, h]

theorem need_some {R α : Type} {x : Option α} {K : α → Option R} {r : R} (h : need x K = some r) : ∃ y, x = some y ∧ K y = some r := by
  cases x with
  | none => cases h
  | some y => exact ⟨y, rfl, h⟩
theorem bnd_some {R α : Type} {x : Option α} {K : α → Option R} {r : R} (h : bnd x K = some r) : ∃ y, x = some y ∧ K y = some r := by
  cases x with
  | none => cases h
  | some y => exact ⟨y, rfl, h⟩
theorem grd_some {R : Type} {c : Bool} {K : Option R} {r : R} (h : grd c K = some r) : c = true ∧ K = some r := by
  cases c with
  | false => cases h
  | true => exact ⟨rfl, h⟩
theorem cond_some {R : Type} {c : Bool} {K : Option R} {r : R} (h : (bif c then K else none) = some r) : c = true ∧ K = some r := by
  cases c with
  | false => cases h
  | true => exact ⟨rfl, h⟩

theorem cmpI_sound {op : BinOp} {k : IntKind} {x y : Int} {c : Bool} {t : TypeId} (h : cmpI op x y = some c) : (binOp op t (.int k x) (.int k y)).run P w = .ok (.bool c) w := by
  cases op <;> simp only [cmpI, Option.some.injEq] at h <;> try cases h
  all_goals simp [binOp, Op.intCmp]
  · by_cases e : x = y <;> simp [e]
  · by_cases e : x = y <;> simp [e]

theorem binI_sound {R : Type} {op : BinOp} {k : IntKind} {x y : Int} {t : TypeId} {K : CV → Option R} {r : R} (h : binI op k x y K = some r) :
    ∃ cv v, K cv = some r ∧ (binOp op t (.int k x) (.int k y)).run P w = .ok v w ∧ CVr g w σ.h cv v := by
  have cmp : ∀ c, cmpI op x y = some c → K (.bool c) = some r → ∃ cv v, K cv = some r ∧ (binOp op t (.int k x) (.int k y)).run P w = .ok v w ∧ CVr g w σ.h cv v :=
    fun c hc hK => ⟨_, _, hK, cmpI_sound hc, rfl⟩
  cases op <;> simp only [binI] at h
  case add => exact ⟨_, _, h, by simp [binOp, Op.intArith], rfl⟩
  case sub => exact ⟨_, _, h, by simp [binOp, Op.intArith], rfl⟩
  case mul => exact ⟨_, _, h, by simp [binOp, Op.intArith], rfl⟩
  case quo =>
    obtain ⟨hc, h⟩ := grd_some h
    have hy : y ≠ 0 := by simpa using hc
    exact ⟨_, _, h, by simp [binOp, Op.intDiv, hy], rfl⟩
  case rem =>
    obtain ⟨hc, h⟩ := grd_some h
    have hy : y ≠ 0 := by simpa using hc
    exact ⟨_, _, h, by simp [binOp, Op.intDiv, hy], rfl⟩
  case and => exact ⟨_, .int k (bitI .and k x y), h, by rw [binOp_and]; rfl, rfl⟩
  case or => exact ⟨_, .int k (bitI .or k x y), h, by rw [binOp_or]; rfl, rfl⟩
  case xor => exact ⟨_, .int k (bitI .xor k x y), h, by rw [binOp_xor]; rfl, rfl⟩
  case andNot => exact ⟨_, .int k (bitI .andNot k x y), h, by rw [binOp_andNot]; rfl, rfl⟩
  case shl => cases h
  case shr => cases h
  all_goals
    obtain ⟨c, hc, hK⟩ := need_some h
    exact cmp c hc hK

theorem cmpS_sound {op : BinOp} {x y : List UInt8} {c : Bool} {t : TypeId} (h : cmpS op x y = some c) : (binOp op t (strV x) (strV y)).run P w = .ok (.bool c) w := by
  cases op <;> simp only [cmpS, Option.some.injEq] at h <;> try cases h
  all_goals simp [binOp, Op.stringOp, strV, ltS]
  all_goals try (by_cases e : x = y <;> simp [e])

theorem binV_sound {R : Type} {tb : Bool} {o : Oper} {op : BinOp} {t t' : TypeId} {px py : Operand} {x y : CV} {K : CV → Option R} {r : R} (h : binV tb op x y K = some r) (htb : tb = true → P.underlying t = some .bool) (ho : o.op = .binOp op t px py t')
    (hx : CVr g w σ.h x (a.eval px)) (hy : CVr g w σ.h y (a.eval py)) :
    ∃ cv v, K cv = some r ∧ (execOp a.eval o).run P w = .ok (.value v) w ∧ CVr g w σ.h cv v := by
  unfold binV at h
  split at h
  · rename_i k m k' n
    have hx : a.eval px = .int k m := hx
    have hy : a.eval py = .int k' n := hy
    have shift : ∀ v : Value, (binOp op t (.int k m) (.int k' n)).run P w = .ok v w → (execOp a.eval o).run P w = .ok (.value v) w := by
      intro v hv
      unfold execOp
      rw [ho]
      simp [hx, hy, eqGuard_at_int, hv]
    split at h
    · obtain ⟨hc, h⟩ := grd_some h
      have h0 : ¬ n < 0 := by simpa using hc
      exact ⟨_, _, h, shift (.int k (shlI k m n)) (by simp [binOp, Op.shift, h0, shlI]), rfl⟩
    · obtain ⟨hc, h⟩ := grd_some h
      have h0 : ¬ n < 0 := by simpa using hc
      exact ⟨_, _, h, shift (.int k (shrI k m n)) (by simp [binOp, Op.shift, h0, shrI]), rfl⟩
    · split at h
      · rename_i hk
        subst hk
        obtain ⟨cv, v, h1, h2, h3⟩ := binI_sound (P := P) (w := w) (g := g) (σ := σ) (t := t) h
        exact ⟨cv, v, h1, run_binop_int ho hx hy h2, h3⟩
      · cases h
  · rename_i m n
    have hx : a.eval px = strV m := hx
    have hy : a.eval py = strV n := hy
    split at h
    · obtain ⟨hc, h⟩ := grd_some h
      have hc : m.length + n.length ≤ 4611686018427387904 := by simpa using hc
      refine ⟨_, strV (m ++ n), h, run_binop_str ho hx hy ?_, rfl⟩
      have : ¬ ((m.length + n.length : Nat) : Int) > IntKind.i64.max := by rw [IntKind.max_i64]; omega
      simp only [binOp, Op.stringOp, strV]
      rw [if_neg (by simpa [ByteArray.size] using this)]
      simp only [Sem.run_pure]
      congr 2
    · obtain ⟨c, hc, h⟩ := need_some h
      exact ⟨_, _, h, run_binop_str ho hx hy (cmpS_sound hc), rfl⟩
  · rename_i m n
    have hx : a.eval px = .bool m := hx
    have hy : a.eval py = .bool n := hy
    obtain ⟨hc, h⟩ := cond_some h
    have ht := htb hc
    have eq : ∀ k : Nat, (Op.equalIn (k + 1) t (.bool m) (.bool n)).run P w = .ok (m == n) w := by
      intro k
      simp [Op.equalIn, run_underlying ht]
    split at h
    · refine ⟨_, .bool (m == n), h, ?_, rfl⟩
      unfold execOp
      rw [ho]
      simp [hx, hy, eqGuard_at_bool, binOp, Op.equal, Op.maxDepth, eq 9999]
    · refine ⟨_, .bool (!(m == n)), h, ?_, rfl⟩
      unfold execOp
      rw [ho]
      simp [hx, hy, eqGuard_at_bool, binOp, Op.equal, Op.maxDepth, eq 9999]
    · cases h
  · cases h
end
end VM

/- The operations that only compute or read. -/
set_option linter.unusedVariables false
set_option linter.unusedSimpArgs false
namespace VM
open Go

section
variable {P : Program} {F : Fx} {σ : St} {a : Act} {w : World} {g : Gh} {R : Type} {tt : List (Nat × TD)} {env : List Ct} {k : Nat} {o : Oper} {H : Nat → RE} {K : Upd → Option R} {y : R}

abbrev Goal (P : Program) (F : Fx) (σ : St) (a : Act) (w : World) (g : Gh) (o : Oper) {R : Type} (K : Upd → Option R) (y : R) : Prop := ∃ u, K u = some y ∧ OpPost P o a w (Post F σ a g u)

theorem goal_pure (r : Rl F σ a w g) {v : SV} {x : Value} (hK : K ⟨v, []⟩ = some y) (h : (execOp a.eval o).run P w = .ok (.value x) w) (hv : SVr g w σ.h v x) : Goal P F σ a w g o K y :=
  ⟨_, hK, OpPost.value h (pure_post r hv)⟩

theorem kindT_some {tt : List (Nat × TD)} {t : TypeId} {c : CK} (h : kindT tt t = some c) : ∃ b fs, look tt t = some (.val c b fs) := by
  unfold kindT at h
  split at h
  · rename_i c' b fs hl
    simp only [Option.some.injEq] at h
    subst h
    exact ⟨b, fs, hl⟩
  · cases h

theorem act_move (r : Rl F σ a w g) {x : Operand} (ho : o.op = .move x) (h : act tt env k o (o.op.operands.toList.map σ.ev) H K = some y) : Goal P F σ a w g o K y := by
  unfold act at h
  rw [ho] at h
  exact goal_pure r h (by unfold execOp; rw [ho]; rfl) (ev_sound r x)

theorem act_assign (r : Rl F σ a w g) {x : Operand} (ho : o.op = .assign x) (h : act tt env k o (o.op.operands.toList.map σ.ev) H K = some y) : Goal P F σ a w g o K y := by
  unfold act at h
  rw [ho] at h
  exact goal_pure r h (by unfold execOp; rw [ho]; rfl) (ev_sound r x)

theorem beq_dec {α : Type} [DecidableEq α] (a b : α) : (a == b) = decide (a = b) := by
  by_cases h : a = b <;> simp [h]

theorem beq_dec' {α : Type} [BEq α] [LawfulBEq α] [DecidableEq α] (a b : α) : (a == b) = decide (a = b) := by
  by_cases h : a = b <;> simp [h]

theorem part_cell {t : TypeId} {c : CK} (ht : TypeIs P t c) (hc : c.isAgg = false) (p : List Value) (u : Value) (r : List Value) : (part t (p ++ u :: r).toArray p.length).run P w = .ok u w := by
  simp [part, ht.agg, hc]

theorem eqC_sound {a : CK} {v1 v2 : CV} {p : Bool} (h : eqC a v1 v2 = some p) {u1 u2 : Value} (h1 : CVr g w σ.h v1 u1) (h2 : CVr g w σ.h v2 u2) {t : TypeId} {d : TypeDesc} (hd : keyD a = some d) (ht : P.underlying t = some d) (n : Nat) :
    (Op.equalIn (n + 1) t u1 u2).run P w = .ok p w := by
  cases a <;> cases v1 <;> cases v2 <;> simp only [eqC] at h <;> try cases h
  · split at h
    · next hk =>
      obtain ⟨rfl, rfl⟩ := hk
      simp only [Option.some.injEq] at h
      have h1 : u1 = _ := h1
      have h2 : u2 = _ := h2
      simp only [keyD, Option.some.injEq] at hd
      rw [h1, h2, run_equalIn_int w n t _ _ _ _ (by rw [ht, ← hd]), ← h, beq_dec]
    · cases h
  · have h1 : u1 = _ := h1
    have h2 : u2 = _ := h2
    simp only [keyD, Option.some.injEq] at hd
    rw [h1, h2, run_equalIn_bool' w n t _ _ (by rw [ht, ← hd]), beq_dec]
  · have h1 : u1 = _ := h1
    have h2 : u2 = _ := h2
    simp only [keyD, Option.some.injEq] at hd
    rw [h1, h2]
    unfold strV
    rw [run_equalIn_string w n t _ _ (by rw [ht, ← hd]), ByteArray.toList_eq, ByteArray.toList_eq]
    exact congrArg (fun b => Result.ok b w) (beq_dec' (α := List UInt8) _ _)

theorem eqCs_sound : ∀ {c : CK} {xs ys : List CV} {r : Bool}, eqCs c xs ys = some r → ∀ {us vs : List Value}, All2 (CVr g w σ.h) xs us → All2 (CVr g w σ.h) ys vs → ∀ {fs : List Field} {off : Nat}, EqF P c fs off →
    ∀ (p q : List Value) (n : Nat), p.length = off → q.length = off → (Op.eqFields (n + 1) (p ++ us).toArray (q ++ vs).toArray fs).run P w = .ok r w
  | .unit, [], [], r, h, us, vs, hu, hv, fs, off, hf, p, q, n, hp, hq => by
    simp only [eqCs, Option.some.injEq] at h
    match fs, hf with
    | [], _ => simp [Op.eqFields, h]
  | .pair a b, x :: xs, y :: ys, r, h, us, vs, hu, hv, fs, off, hf, p, q, n, hp, hq => by
    simp only [eqCs] at h
    split at h
    case h_2 => cases h
    rename_i p1 h1
    split at h
    case h_2 => cases h
    rename_i q1 h2
    simp only [Option.some.injEq] at h
    match us, hu, vs, hv, fs, hf with
    | u :: us, ⟨hu1, hu2⟩, v :: vs, ⟨hv1, hv2⟩, f :: fs, ⟨f1, f2, ⟨d, f3, f4⟩, f5, f6⟩ =>
      have hna : a.isAgg = false := by cases a <;> first | rfl | (simp [keyD] at f3)
      have e := eqC_sound h1 hu1 hv1 f3 f4 n
      have ih := eqCs_sound h2 hu2 hv2 f6 (p ++ [u]) (q ++ [v]) n (by simp [hp]) (by simp [hq])
      simp only [List.append_assoc, List.singleton_append] at ih
      subst hp
      simp only [Op.eqFields, f1, ne_eq, not_false_eq_true, if_true, f2, Sem.run_bind, part_cell f5 hna, Result.andThen_ok]
      rw [← hq, part_cell f5 hna]
      simp only [Result.andThen_ok, e]
      cases p1 with
      | false => simp [← h]
      | true => simp only [Bool.not_true, Bool.false_eq_true, if_false]; rw [ih, ← h]; rfl
  | .unit, [], _ :: _, r, h, _, _, _, _, _, _, _, _, _, _, _, _ => by cases h
  | .unit, _ :: _, _, r, h, _, _, _, _, _, _, _, _, _, _, _, _ => by cases h
  | .pair _ _, [], _, r, h, _, _, _, _, _, _, _, _, _, _, _, _ => by cases h
  | .pair _ _, _ :: _, [], r, h, _, _, _, _, _, _, _, _, _, _, _, _ => by cases h
  | .int _, _, _, r, h, _, _, _, _, _, _, _, _, _, _, _, _ => by simp [eqCs] at h
  | .bool, _, _, r, h, _, _, _, _, _, _, _, _, _, _, _, _ => by simp [eqCs] at h
  | .str, _, _, r, h, _, _, _, _, _, _, _, _, _, _, _, _ => by simp [eqCs] at h
  | .sl _, _, _, r, h, _, _, _, _, _, _, _, _, _, _, _, _ => by simp [eqCs] at h

theorem act_binOp (htt : TTok P tt) (r : Rl F σ a w g) {op : BinOp} {t t' : TypeId} {px py : Operand} (ho : o.op = .binOp op t px py t') (h : act tt env k o (o.op.operands.toList.map σ.ev) H K = some y) : Goal P F σ a w g o K y := by
  have hRl := r
  unfold act at h
  rw [ho] at h
  simp only [Op.operands, List.map_cons, List.map_nil] at h
  have hx := ev_sound r px
  have hy := ev_sound r py
  cases ex : σ.ev px with
  | one x =>
    cases ey : σ.ev py with
    | one z =>
      rw [ex, ey] at h
      rw [ex] at hx
      rw [ey] at hy
      dsimp only at h
      obtain ⟨cv, v, h1, h2, h3⟩ := binV_sound (P := P) (w := w) (g := g) (σ := σ) (t := t) h (fun hb => by
        split at hb
        · rename_i hk
          obtain ⟨b, fs, hl⟩ := kindT_some hk
          obtain ⟨i, d, k1, k2, k3, k4, k5⟩ := (htt.is _ _ _ _ hl).ex
          exact htt.bool _ _ _ hl
        · cases hb) ho hx hy
      exact goal_pure r h1 h2 h3
    | _ => rw [ex, ey] at h; cases h
  | agg xs =>
    cases ey : σ.ev py with
    | agg ys =>
      rw [ex, ey] at h
      rw [ex] at hx
      rw [ey] at hy
      dsimp only at h
      split at h
      case h_2 => cases h
      rename_i c hk
      obtain ⟨hc, h⟩ := cond_some h
      split at h
      case h_2 => cases h
      rename_i r hr
      obtain ⟨b, fs, hl⟩ := kindT_some hk
      obtain ⟨Fs, u1, u2, u3, u4⟩ := htt.eqs _ _ _ _ hl hc
      obtain ⟨us, hus, hall⟩ := hx
      obtain ⟨vs, hvs, hall2⟩ := hy
      have hfo : P.fieldsOf t = Fs.toArray := by simp [Program.fieldsOf, u1]
      have key : (Op.equalIn 10000 t (.agg us.toArray) (.agg vs.toArray)).run P w = .ok r w := by
        rw [show (10000 : Nat) = 9999 + 1 from rfl, run_equalIn_struct w 9999 t _ _ (by rw [hfo]; exact u1) u2, hfo]
        have := eqCs_sound hr hall hall2 u4 [] [] 9998 rfl rfl
        simpa using this
      cases op with
      | eql =>
        have run : (execOp a.eval o).run P w = .ok (.value (.bool r)) w := by
          unfold execOp
          rw [ho]
          simp [hus, hvs, run_eqGuard_agg w _ t _ _ _ _ u3, run_eql_struct, key, Result.andThen]
        exact goal_pure hRl h run rfl
      | neq =>
        have run : (execOp a.eval o).run P w = .ok (.value (.bool (!r))) w := by
          unfold execOp
          rw [ho]
          simp [hus, hvs, run_eqGuard_agg w _ t _ _ _ _ u3, run_neq_struct, key, Result.andThen]
        exact goal_pure hRl h run rfl
      | _ => cases h
    | _ => rw [ex, ey] at h; cases h
  | tup xs => rw [ex] at h; cases σ.ev py <;> cases h

theorem varAt_sound (r : Rl F σ a w g) (hH : HOk H σ.h o.dst) {id inc : Nat} {cs : List CV} (h : varAt H id inc = some cs) : H id = σ.h id ∧ inc = (σ.h id).inc ∧ (σ.h id).c = .var cs := by
  unfold varAt at h
  cases hr : H id with
  | mk i v c =>
    rw [hr] at h
    cases c with
    | var cs' =>
      simp only at h
      obtain ⟨hi, h⟩ := cond_some h
      have hi := Nat.eq_of_beq_eq_true hi
      simp only [Option.some.injEq] at h
      subst h
      have := hH.c id (by rw [hr]; simp)
      rw [hr] at this
      exact ⟨this, by rw [← this]; exact hi.symm, by rw [← this]⟩
    | none => cases h
    | row => cases h
    | map => cases h
    | hole => cases h
    | loan => cases h

/-- A variable's block. -/
theorem Rl.var (r : Rl F σ a w g) {id : Nat} {cs : List CV} (hc : (σ.h id).c = .var cs) :
    ∃ b us ty, g.loc id = .pointer (some ⟨b, 0, none⟩) ∧ g.fp id = [b] ∧ w.heap[b]? = some (.cells us.toArray ty (0, 0)) ∧ All2 (CVr g w σ.h) cs us := by
  have := r.rt id
  unfold RR at this
  rw [hc] at this
  exact this

theorem act_pick (r : Rl F σ a w g) {c p q : Operand} (ho : o.op = .pick c p q) (h : act tt env k o (o.op.operands.toList.map σ.ev) H K = some y) : Goal P F σ a w g o K y := by
  unfold act at h
  rw [ho] at h
  simp only [Op.operands, List.map_cons, List.map_nil] at h
  have hx := ev_sound r c
  have run : ∀ b, a.eval c = .bool b → (execOp a.eval o).run P w = .ok (.value (if b = true then a.eval p else a.eval q)) w := by
    intro b hb
    unfold execOp
    rw [ho]
    simp [hb, asBool]
  cases ex : σ.ev c with
  | one x =>
    rw [ex] at h hx
    cases x <;> dsimp only at h <;> try cases h
    rename_i b
    have hb : a.eval c = .bool b := hx
    have hr := run b hb
    cases b with
    | true => exact goal_pure r h hr (ev_sound r p)
    | false => exact goal_pure r h hr (ev_sound r q)
  | _ => rw [ex] at h; cases h

theorem ptr_some (r : Rl F σ a w g) (hH : HOk H σ.h o.dst) {id inc ver : Nat} {p : Path} {i : Int} {off : Nat} {c : CK} {R : Row1} (h : rowAt H id inc ver p = some R) {u : Value} (hu : CVr g w σ.h (.ptr id inc ver p i off c) u) :
    ∃ b oo, ∃ (len cap : Nat), u = .pointer (some ⟨b, oo + (i.toNat * R.e.size + off), none⟩) ∧ 0 ≤ i ∧ i < (len : Int) ∧
      ∀ d e, (σ.h id).c.kd = some (d, e) → RowAt w e (g.loc id) p (.slice (some ⟨b, oo, none⟩) len cap) := by
  obtain ⟨k1, k2, k3, e0, xs0, k4, k5⟩ := rowAt_sound r hH h
  obtain ⟨h1, h2⟩ := hu
  obtain ⟨e', b, oo, len, cap, m1, m2, m3, m4, m5⟩ := h2 _ _ (by rw [k4]; rfl) ⟨k2.symm, k3⟩
  rw [kindRow_of_get k5, Option.some.injEq] at m1
  subst m1
  exact ⟨b, oo, len, cap, m5, m3, m4, fun d e hc => by rw [k4] at hc; cases hc; exact m2⟩

theorem act_nilCheck (r : Rl F σ a w g) (hH : HOk H σ.h o.dst) {x : Operand} (ho : o.op = .nilCheck x) (h : act tt env k o (o.op.operands.toList.map σ.ev) H K = some y) : Goal P F σ a w g o K y := by
  unfold act at h
  rw [ho] at h
  simp only [Op.operands, List.map_cons, List.map_nil] at h
  have hx := ev_sound r x
  have run : ∀ ad, a.eval x = .pointer (some ad) → (execOp a.eval o).run P w = .ok (.value (.pointer (some ad))) w := by
    intro ad hb
    unfold execOp
    rw [ho]
    simp [hb]
  cases ex : σ.ev x with
  | one v =>
    rw [ex] at h hx
    cases v <;> dsimp only at h <;> try cases h
    case rp c z =>
      obtain ⟨b, off, us, h1, h2⟩ := hx
      exact goal_pure r h (run _ h1) (h1 ▸ ⟨b, off, us, h1, h2⟩)
    case fn f =>
      have hf : a.eval x = .func (.func f) #[] #[] := hx
      exact goal_pure r h (by unfold execOp; rw [ho]; simp [hf]) (show SVr g w σ.h (.one (.fn f)) (.func (.func f) #[] #[]) from rfl)
    case vptr id inc off =>
      cases hv : varAt H id inc with
      | none => rw [hv] at h; cases h
      | some cs =>
        rw [hv] at h
        obtain ⟨k1, k2, k3⟩ := varAt_sound r hH hv
        obtain ⟨b, h1, h2⟩ := hx.2 k2 cs k3
        exact goal_pure r h (run _ h2) (h2 ▸ hx)
    case ptr id inc ver p i off c =>
      obtain ⟨b, oo, h1⟩ := hx.1.2
      exact goal_pure r h (run _ h1) (h1 ▸ hx)
  | _ => rw [ex] at h; cases h

theorem act_not (r : Rl F σ a w g) {t : TypeId} {x : Operand} (ho : o.op = .unOp .not t x) (h : act tt env k o (o.op.operands.toList.map σ.ev) H K = some y) : Goal P F σ a w g o K y := by
  unfold act at h
  rw [ho] at h
  simp only [Op.operands, List.map_cons, List.map_nil] at h
  have hx := ev_sound r x
  cases ex : σ.ev x with
  | one v =>
    rw [ex] at h hx
    cases v <;> dsimp only at h <;> try cases h
    rename_i b
    have hb : a.eval x = .bool b := hx
    exact goal_pure r h (by unfold execOp; rw [ho]; simp [hb, Op.unary]) (show SVr g w σ.h (.one (.bool !b)) (.bool !b) from rfl)
  | _ => rw [ex] at h; cases h

theorem act_neg (r : Rl F σ a w g) {t : TypeId} {x : Operand} (ho : o.op = .unOp .neg t x) (h : act tt env k o (o.op.operands.toList.map σ.ev) H K = some y) : Goal P F σ a w g o K y := by
  unfold act at h
  rw [ho] at h
  simp only [Op.operands, List.map_cons, List.map_nil] at h
  have hx := ev_sound r x
  cases ex : σ.ev x with
  | one v =>
    rw [ex] at h hx
    cases v <;> dsimp only at h <;> try cases h
    rename_i k n
    have hb : a.eval x = .int k n := hx
    exact goal_pure r h (by unfold execOp; rw [ho]; simp [hb, Op.unary, Op.intArith]) (show SVr g w σ.h (.one (.int k _)) (.int k (k.wrap (0 - n))) from rfl)
  | _ => rw [ex] at h; cases h

theorem act_extract (r : Rl F σ a w g) {x : Operand} {i : Nat} (ho : o.op = .extract x i) (h : act tt env k o (o.op.operands.toList.map σ.ev) H K = some y) : Goal P F σ a w g o K y := by
  unfold act at h
  rw [ho] at h
  simp only [Op.operands, List.map_cons, List.map_nil] at h
  have hx := ev_sound r x
  cases ex : σ.ev x with
  | tup xs =>
    rw [ex] at h hx
    obtain ⟨us, hu, hall⟩ := hx
    dsimp only at h
    cases hi : xs[i]? with
    | none => rw [hi] at h; cases h
    | some z =>
      rw [hi] at h
      obtain ⟨u, hu', hz⟩ := hall.get hi
      have run : (execOp a.eval o).run P w = .ok (.value u) w := by
        unfold execOp
        rw [ho]
        simp [hu, Instr.extract, hu']
      obtain ⟨b, cs⟩ := z
      cases b with
      | true =>
        dsimp only at h
        simp only [if_true] at hz
        exact goal_pure r h run hz
      | false =>
        simp only [Bool.false_eq_true, if_false] at hz
        obtain ⟨v, rfl, hv⟩ := hz
        exact goal_pure r h run hv
  | one => rw [ex] at h; cases h
  | agg => rw [ex] at h; cases h

theorem info_underlying (P : Program) (t : TypeId) : ∀ d, P.underlying t = some d → True := fun _ _ => trivial

theorem act_fieldAddr (htt : TTok P tt) (r : Rl F σ a w g) (hH : HOk H σ.h o.dst) {t : TypeId} {x : Operand} {f : Nat} (ho : o.op = .fieldAddr t x f) (h : act tt env k o (o.op.operands.toList.map σ.ev) H K = some y) : Goal P F σ a w g o K y := by
  unfold act at h
  rw [ho] at h
  simp only [Op.operands, List.map_cons, List.map_nil] at h
  have hx := ev_sound r x
  cases ex : σ.ev x with
  | one v =>
    rw [ex] at h hx
    dsimp only at h
    cases hf : fieldT tt t f with
    | none => rw [hf] at h; cases h
    | some q =>
      obtain ⟨off, d⟩ := q
      rw [hf] at h
      dsimp only at h
      have hl : ∃ c b fs, look tt t = some (.val c b fs) ∧ fs[f]? = some (off, d) := by
        unfold fieldT at hf
        split at hf
        · rename_i c b fs hl; exact ⟨c, b, fs, hl, hf⟩
        · cases hf
      obtain ⟨c, b, fs, hl, hfs⟩ := hl
      obtain ⟨Fs, fl, u1, u2, u3, u4, u5, u6⟩ := htt.fld _ _ _ _ _ _ _ hl hfs
      have run : ∀ bl oo, a.eval x = .pointer (some ⟨bl, oo, none⟩) → (execOp a.eval o).run P w = .ok (.value (.pointer (some ⟨bl, oo + off, none⟩))) w := by
        intro bl oo hb
        unfold execOp
        rw [ho]
        have hne : d.size ≠ 0 := by omega
        simp [hb, Instr.fieldAt, run_underlying u1, u2, Instr.sureAddr, fieldPlace, u4.size, hne, u3, Addr.add_lit]
      cases v <;> dsimp only at h <;> try cases h
      case vptr id inc off' =>
        cases hv : varAt H id inc with
        | none => rw [hv] at h; cases h
        | some cs =>
          rw [hv] at h
          obtain ⟨k1, k2, k3⟩ := varAt_sound r hH hv
          obtain ⟨bl, h1, h2⟩ := hx.2 k2 cs k3
          refine goal_pure r h (run _ _ h2) ⟨⟨hx.1.1, rfl⟩, fun _ cs' hc' => ⟨bl, h1, ?_⟩⟩
          rfl
      case rp c' z =>
        obtain ⟨bl, oo, us, h1, h2, h3, h4⟩ := hx
        cases hL : c'.lens off d with
        | none => rw [hL] at h; cases h
        | some L =>
          rw [hL] at h
          obtain ⟨w1, wm, w2, f1, fm, f2, rfl, n1, n2, n3, _⟩ := CK.lens_spec hL h4
          have hfm : fm = [] := Has.fp_false n3
          subst hfm
          have hc := (CellsAt.append.1 (CellsAt.append.1 h3).2).1
          rw [n1] at hc
          exact goal_pure r h (run _ _ h1) ⟨bl, oo + off, wm, rfl, h2, hc, n3⟩
      case ptr id inc ver p j off' c' =>
        obtain ⟨b, oo, h1⟩ := hx.1.2
        refine goal_pure r h (run _ _ h1) ⟨⟨⟨hx.1.1.1, hx.1.1.2.1, rfl⟩, _, _, rfl⟩, fun d' e' hc' hv' => ?_⟩
        obtain ⟨e'', bl, o', len, cap, m1, m2, m3, m4, m5⟩ := hx.2 d' e' hc' hv'
        rw [h1] at m5
        simp only [Value.pointer.injEq, Option.some.injEq, Addr.mk.injEq] at m5
        obtain ⟨rfl, rfl, _⟩ := m5
        exact ⟨e'', _, o', len, cap, m1, m2, m3, m4, by rw [show o' + (j.toNat * e''.size + off') + off = o' + (j.toNat * e''.size + (off' + off)) by omega]⟩
  | _ => rw [ex] at h; cases h

theorem act_index (r : Rl F σ a w g) (htt : TTok P tt) {t : TypeId} {x i : Operand} (ho : o.op = .index t x i) (h : act tt env k o (o.op.operands.toList.map σ.ev) H K = some y) : Goal P F σ a w g o K y := by
  unfold act at h
  rw [ho] at h
  simp only [Op.operands, List.map_cons, List.map_nil] at h
  have hx := ev_sound r x
  have hi := ev_sound r i
  cases ex : σ.ev x with
  | one v =>
    cases ei : σ.ev i with
    | one u =>
      rw [ex] at h hx
      rw [ei] at h hi
      cases v <;> try cases h
      rename_i s
      cases u <;> dsimp only at h <;> try cases h
      rename_i kk n
      have hs : a.eval x = strV s := hx
      have hn : a.eval i = .int kk n := hi
      cases hk : kindT tt t with
      | none => rw [hk] at h; cases h
      | some c =>
        rw [hk] at h
        have hc : c = .str ∧ grd (inb s n) (K ⟨.one (.int .u8 ((rdL s n 0).toNat : Int)), []⟩) = some y := by
          cases c <;> first | exact ⟨rfl, h⟩ | cases h
        clear h
        obtain ⟨rfl, h⟩ := hc
        obtain ⟨b, fs, hl⟩ := kindT_some hk
        have ht := htt.str _ _ _ hl
        obtain ⟨hb, h⟩ := grd_some h
        simp only [inb, Bool.and_eq_true, decide_eq_true_eq] at hb
        obtain ⟨n, rfl⟩ := Int.eq_ofNat_of_zero_le hb.1
        have hlt : n < s.length := by omega
        refine goal_pure r h (x := .int .u8 ((rdL s (n : Int) 0).toNat : Int)) ?_ rfl
        unfold execOp
        rw [ho]
        have hget : (ByteArray.mk s.toArray)[n]? = some s[n] := by
          rw [getElem?_pos _ _ (by simpa [ByteArray.size] using hlt)]
          rfl
        simp [hs, hn, Instr.index, asIntOf, run_underlying ht, strV, rdL, hlt, List.getD, hget]
    | _ => rw [ex, ei] at h; cases v <;> cases h
  | _ => rw [ex] at h; cases σ.ev i <;> cases h
end
end VM

/- Operations on slices that only read; loads. -/
set_option linter.unusedVariables false
set_option linter.unusedSimpArgs false
namespace VM
open Go

section
variable {P : Program} {F : Fx} {σ : St} {a : Act} {w : World} {g : Gh} {R : Type} {tt : List (Nat × TD)} {env : List Ct} {k : Nat} {o : Oper} {H : Nat → RE} {K : Upd → Option R} {y : R}


theorem size_of_not_agg {c : CK} (h : c.isAgg = false) : c.size = 1 := by cases c <;> simp [CK.isAgg] at h <;> rfl

theorem toSV_sound {g : Gh} {w : World} {h : Nat → RE} {c : CK} {cs : List CV} {us : List Value} (ha : All2 (CVr g w h) cs us) (hl : cs.length = c.size) : SVr g w h (toSV c cs) (valV c us) := by
  unfold toSV valV
  cases hc : c.isAgg with
  | true => exact ⟨us, rfl, ha⟩
  | false =>
    have h1 := size_of_not_agg hc
    rw [h1] at hl
    match cs, us, ha, hl with
    | [v], [u], ⟨h1, _⟩, _ => exact h1
    | [v], [], h, _ => exact h.elim
    | [v], _ :: _ :: _, ⟨_, h⟩, _ => exact h.elim

theorem run_loadVar {P : Program} {t : TypeId} {c : CK} (ht : TypeIs P t c) {w : World} {b off : Nat} {us : List Value} (hc : CellsAt w b off us) (hl : us.length = c.size) :
    (loadVar t ⟨b, off, none⟩).run P w = .ok (valV c us) w := by
  unfold loadVar valV
  simp only [Sem.run_bind, ht.agg, Result.andThen_ok]
  cases ha : c.isAgg with
  | true =>
    simp only [if_true, Sem.run_bind, ht.size, Result.andThen_ok, cond_true]
    rw [← hl, run_loadCells_list w ⟨b, off, none⟩ us (fun j v hj => by rw [Addr.add_lit]; exact hc j v hj)]
    rfl
  | false =>
    have h1 := size_of_not_agg ha
    rw [h1] at hl
    match us, hl with
    | [u], _ =>
      have := hc 0 u rfl
      rw [Nat.add_zero] at this
      simp [this]

theorem Cat.ints {Z : Nat → Prop} {w : World} {d : Bool} {k : IntKind} : ∀ {xs : List Int} {vs : List Value} {fs : List Nat}, Cat (Has Z w d (.int k)) xs vs fs → vs = xs.map (Value.int k)
  | [], _, _, ⟨h, _⟩ => h
  | x :: xs, _, _, ⟨u1, u2, f1, f2, h, _, h1, h2⟩ => by rw [h, h1.1, Cat.ints h2]; rfl

theorem foldl_push : ∀ (xs : List Int) (s : ByteArray), xs.foldl (fun r n => r.push (UInt8.ofNat n.toNat)) s = ⟨(s.data.toList ++ bytesOf xs).toArray⟩
  | [], s => by simp [bytesOf]
  | x :: xs, s => by
    rw [List.foldl_cons, foldl_push xs]
    simp [bytesOf, ByteArray.push]

theorem elemT_some {tt : List (Nat × TD)} {t : TypeId} {e : CK} (h : elemT tt t = some e) : ∃ b fs, look tt t = some (.val (.sl e) b fs) := by
  unfold elemT at h
  split at h
  · rename_i c' b fs hl
    simp only [Option.some.injEq] at h
    subst h
    exact ⟨b, fs, hl⟩
  · cases h

/-- The row behind a reference: its value. -/
theorem row_some (r : Rl F σ a w g) (hH : HOk H σ.h o.dst) {id inc ver : Nat} {p : Path} {R : Row1} (h : rowAt H id inc ver p = some R) {u : Value} (hu : CVr g w σ.h (.row id inc ver p) u) :
    (∃ f1 fm f2, g.fp id = f1 ++ (fm ++ f2) ∧ Row g.Z w R.d R.e R.xs u fm) ∧ ∀ d e, (σ.h id).c.kd = some (d, e) → RowAt w e (g.loc id) p u ∧ kindRow e p = some R.e := by
  obtain ⟨k1, k2, k3, e0, xs0, k4, k5⟩ := rowAt_sound r hH h
  have hat : ∀ d e xs, (σ.h id).c = .row d e xs → RowAt w e (g.loc id) p u := fun d e xs hc => hu.2 d e (by rw [hc]; rfl) ⟨k2.symm, by rw [k4] at hc; cases hc; exact k3⟩
  obtain ⟨f1, fm, f2, m1, m2, _⟩ := r.row hH h hat
  exact ⟨⟨f1, fm, f2, m1, m2⟩, fun d e hc => ⟨by rw [k4] at hc; cases hc; exact hat _ _ _ k4, by rw [k4] at hc; cases hc; exact kindRow_of_get k5⟩⟩

theorem lenV_sound (r : Rl F σ a w g) (hH : HOk H σ.h o.dst) {v : CV} {n : Int} (h : lenV H v = some n) {u : Value} (hu : CVr g w σ.h v u) :
    (∃ s, v = .str s ∧ u = strV s ∧ n = s.length) ∨ ((∀ s, v ≠ .str s) ∧ ∃ A l cap, u = .slice A l cap ∧ n = (l : Int) ∧ l ≤ cap) := by
  cases v with
  | str s => simp only [lenV, Option.some.injEq] at h; exact .inl ⟨s, rfl, hu, h.symm⟩
  | nil => simp only [lenV, Option.some.injEq] at h; exact .inr ⟨by simp, none, 0, 0, hu, by rw [← h]; rfl, Nat.le_refl _⟩
  | sl e xs =>
    simp only [lenV, Option.some.injEq] at h
    obtain ⟨v, hv, hh⟩ := hu
    simp only [List.cons.injEq, and_true] at hv
    subst hv
    rcases hh with ⟨hd, _⟩ | ⟨_, _, A, cap, rfl, hc, _⟩
    · cases hd
    · exact .inr ⟨by simp, A, xs.length, cap, rfl, h.symm, hc⟩
  | row id inc ver p =>
    simp only [lenV] at h
    cases hv : rowAt H id inc ver p with
    | none => rw [hv] at h; cases h
    | some R =>
      rw [hv] at h
      simp only [Option.some.injEq] at h
      obtain ⟨⟨f1, fm, f2, _, A, cap, rfl, hc, _⟩, _⟩ := row_some r hH hv hu
      exact .inr ⟨by simp, A, _, cap, rfl, h.symm, hc⟩
  | rsub id inc ver p lo hi =>
    simp only [lenV] at h
    cases hv : rowAt H id inc ver p with
    | none => rw [hv] at h; cases h
    | some R =>
      rw [hv] at h
      simp only [Option.some.injEq] at h
      obtain ⟨k1, k2, k3, e0, xs0, k4, k5⟩ := rowAt_sound r hH hv
      obtain ⟨v', e', n1, n2, s1, s2, A, len, cap, s3, s4, rfl⟩ := hu.2 _ _ (by rw [k4]; rfl) ⟨k2.symm, k3⟩
      obtain ⟨f1, fm, f2, m1, ⟨A', cap', hv', hc', _⟩, _⟩ := r.row hH hv (u := v') (fun d e xs hc => by rw [k4] at hc; cases hc; exact n2)
      rw [hv'] at s3
      cases s3
      exact .inr ⟨by simp, _, _, _, rfl, by omega, by omega⟩
  | undef | int | bool | rp | fn | vptr | ptr | map => simp [lenV] at h

theorem act_len (htt : TTok P tt) (r : Rl F σ a w g) (hH : HOk H σ.h o.dst) {as : Array Operand} {ts : Array TypeId} (ho : o.op = .call { callee := .builtin .len, args := as, argTypes := ts })
    (h : act tt env k o (o.op.operands.toList.map σ.ev) H K = some y) : Goal P F σ a w g o K y := by
  unfold act at h
  rw [ho] at h
  simp only [Op.operands, Call.operands, Array.empty_append] at h
  obtain ⟨l, rfl⟩ : ∃ l : List Operand, as = l.toArray := ⟨as.toList, by simp⟩
  match l, h with
  | [], h => cases h
  | z :: z' :: l', h =>
    simp only [List.map_cons] at h
    generalize σ.ev z = v1 at h
    generalize σ.ev z' = v2 at h
    generalize List.map σ.ev l' = l2 at h
    rcases v1 with v1 | v1 | v1 <;> rcases v2 with v2 | v2 | v2 <;> rcases l2 with _ | ⟨v3, l3⟩ <;> first | (cases h; done) | (cases v1 <;> cases v2 <;> cases h; done) | skip
  | [x], h =>
    simp only [List.map_cons, List.map_nil] at h
    have hx := ev_sound r x
    cases ex : σ.ev x with
    | one v =>
      rw [ex] at h hx
      dsimp only at h
      cases hl : lenV H v with
      | none => rw [hl] at h; cases h
      | some n =>
        rw [hl] at h
        dsimp only at h
        obtain ⟨ht, h⟩ := cond_some h
        refine goal_pure r h (x := .int .i64 n) ?_ rfl
        cases hts : ts[0]? with
        | none => rw [hts] at ht; simp [lenT] at ht
        | some t =>
          rw [hts] at ht
          simp only [Option.bind_some] at ht
          cases hk : kindT tt t with
          | none => rw [hk] at ht; simp [lenT] at ht
          | some c =>
            rw [hk] at ht
            obtain ⟨b, fs, hlo⟩ := kindT_some hk
            have run : (Builtin.len_ ts o.type #[a.eval x]).run P w = .ok (.int .i64 n) w → (execOp a.eval o).run P w = .ok (.value (.int .i64 n)) w := by
              intro hr
              unfold execOp
              rw [ho]
              simp [resolve, invoke, builtin, hr]
            apply run
            rcases lenV_sound r hH hl hx with ⟨s, rfl, hu, rfl⟩ | ⟨hns, A, l, cap, hu, rfl, _⟩
            · cases c <;> simp [lenT] at ht
              have hz : (ByteArray.mk s.toArray).size = s.length := by simp [ByteArray.size]
              simp [Builtin.len_, hts, hu, run_underlying (htt.str _ _ _ hlo), strV, goInt, hz]
            · cases c with
              | sl e =>
                obtain ⟨et, hu', _⟩ := htt.sl _ _ _ _ hlo
                simp [Builtin.len_, hts, hu, run_underlying hu', goInt]
              | str => cases v <;> simp [lenT] at ht; exact absurd rfl (hns _)
              | _ => simp [lenT] at ht
    | _ => rw [ex] at h; cases h

theorem holeAt_some (r : Rl F σ a w g) (hH : HOk H σ.h o.dst) {id inc : Nat} {p : Path} {R : Row1} (h : holeAt H id inc p = some R) :
    p = [] ∧ ∃ v0 i1 o1, σ.h id = ⟨inc, v0, .hole R.e R.xs i1 o1⟩ ∧ H id = σ.h id := by
  unfold holeAt at h
  split at h
  · split at h
    · rename_i i v e xs i1 o1 hid
      replace h := cond_some h
      obtain ⟨hi, h⟩ := h
      have hi := Nat.eq_of_beq_eq_true hi
      simp only [Option.some.injEq] at h
      subst hi h
      have := hH.c id (by rw [hid]; simp)
      exact ⟨rfl, v, i1, o1, by rw [← this, hid], this⟩
    · cases h
  · cases h

theorem act_indexAddr (htt : TTok P tt) (r : Rl F σ a w g) (hH : HOk H σ.h o.dst) {t : TypeId} {x i : Operand} (ho : o.op = .indexAddr t x i) (h : act tt env k o (o.op.operands.toList.map σ.ev) H K = some y) : Goal P F σ a w g o K y := by
  unfold act at h
  rw [ho] at h
  simp only [Op.operands, List.map_cons, List.map_nil] at h
  have hx := ev_sound r x
  have hi := ev_sound r i
  cases ex : σ.ev x with
  | one v =>
    cases ei : σ.ev i with
    | one u =>
      rw [ex, ei] at h
      rw [ex] at hx
      rw [ei] at hi
      cases u <;> try cases h
      rename_i kk n
      have hn : a.eval i = .int kk n := hi
      dsimp only at h
      cases hk : elemT tt t with
      | none => rw [hk] at h; cases h
      | some e' =>
        rw [hk] at h
        dsimp only at h
        obtain ⟨b, fs, hlo⟩ := elemT_some hk
        obtain ⟨et, hu', het, hpos, _⟩ := htt.sl _ _ _ _ hlo
        have run : ∀ b off len cap, a.eval x = .slice (some ⟨b, off, none⟩) len cap → 0 ≤ n → n < (len : Int) →
            (execOp a.eval o).run P w = .ok (.value (.pointer (some ⟨b, off + n.toNat * e'.size, none⟩))) w := by
          intro b off len cap hb h0 h1
          unfold execOp
          rw [ho]
          simp [hb, hn, Instr.indexAt, asIntOf, run_underlying hu', h0, h1, het.size, Addr.add_lit]
        cases v <;> dsimp only at h <;> try cases h
        case sl e xs =>
          split at h
          · rename_i he
            subst he
            obtain ⟨hb, h⟩ := grd_some h
            simp only [inb, Bool.and_eq_true, decide_eq_true_eq] at hb
            obtain ⟨v, hv, hh⟩ := hx
            simp only [List.cons.injEq, and_true] at hv
            rcases hh with ⟨hd, _⟩ | ⟨_, _, A, cap, rfl, hc, hh⟩
            · cases hd
            · rcases hh with hh | ⟨bl, off, vs, fs', rfl, c1, c2, c3⟩
              · rw [hh] at hb; simp at hb; omega
              · obtain ⟨m, rfl⟩ := Int.eq_ofNat_of_zero_le hb.1
                have hm : m < xs.length := by omega
                rw [list_at xs m hm e.dflt] at c2
                obtain ⟨u1, u2, f1, f2, rfl, rfl, d1, d2⟩ := Cat.split c2
                obtain ⟨u2, u3, f2, f3, rfl, rfl, d2, d3⟩ := Cat.split d2
                have hl1 : u1.length = m * e.size := by rw [Cat.len (fun _ _ _ h => Has.len h) d1, List.length_take, Nat.min_eq_left (by omega)]
                have hcell := (CellsAt.append.1 (CellsAt.append.1 c1).2).1
                rw [hl1] at hcell
                have hd2 := Cat.of_one d2
                have hf2 := Has.fp_false hd2
                subst hf2
                refine goal_pure r h (run _ _ _ _ hv hb.1 hb.2) ⟨bl, off + m * e.size, u2, ?_, c3, hcell, ?_⟩
                · simp
                · simpa [rdL] using hd2
          · cases h
        case row id inc ver p =>
          cases hv : rowAt H id inc ver p with
          | none =>
            rw [hv] at h
            dsimp only at h
            cases hv2 : holeAt H id inc p with
            | none => rw [hv2] at h; cases h
            | some R =>
              rw [hv2] at h
              dsimp only at h
              split at h
              case isFalse => cases h
              rename_i he
              replace h := grd_some h
              obtain ⟨hb, h⟩ := h
              simp only [inb, Bool.and_eq_true, decide_eq_true_eq] at hb
              obtain ⟨rfl, v0, i1, o1, hs, hid⟩ := holeAt_some r hH hv2
              have hrr := r.rt id
              unfold RR at hrr
              rw [hs] at hrr
              obtain ⟨bl, off, cap, f1, f2, m1, m2, m3, m4, m5, m6, m7, _⟩ := hrr
              have hloc : a.eval x = g.loc id := hx.2 false R.e (by rw [hs]; rfl) ⟨by rw [hs], .inl rfl⟩
              refine goal_pure r h (run _ _ _ _ (hloc.trans m1) hb.1 hb.2) ⟨⟨⟨hx.1.1, fun _ => ?_, rfl⟩, _, _, rfl⟩, fun d e hc' _ => ⟨R.e, bl, off, R.xs.length, cap, ?_, ?_, hb.1, hb.2, ?_⟩⟩
              · rw [hid]; exact Nat.le_refl _
              · rw [hs] at hc'
                simp only [RC.kd, Option.some.injEq, Prod.mk.injEq] at hc'
                rw [← hc'.2]
                rfl
              · exact m1.symm
              · rw [he, Nat.add_zero]
          | some R =>
            rw [hv] at h
            dsimp only at h
            split at h
            · rename_i he
              obtain ⟨hb, h⟩ := grd_some h
              simp only [inb, Bool.and_eq_true, decide_eq_true_eq] at hb
              obtain ⟨k1, k2, k3, _⟩ := rowAt_sound r hH hv
              obtain ⟨⟨f1, fm, f2, _, A, cap, hA, hc, hh⟩, hat⟩ := row_some r hH hv hx
              rcases hh with ⟨hh, _⟩ | ⟨bl, off, vs, fs', rfl, c1, c2, c3, c4⟩
              · rw [hh] at hb; simp at hb; omega
              · refine goal_pure r h (run _ _ _ _ hA hb.1 hb.2) ⟨⟨⟨hx.1.1, fun _ => ?_, rfl⟩, _, _, rfl⟩, fun d e hc' _ => ⟨R.e, bl, off, R.xs.length, cap, (hat d e hc').2, by rw [← hA]; exact (hat d e hc').1, hb.1, hb.2, ?_⟩⟩
                · rw [k1]; exact Nat.le_refl _
                · rw [he, Nat.add_zero]
            · cases h
    | _ => rw [ex, ei] at h; cases v <;> cases h
  | _ => rw [ex] at h; cases σ.ev i <;> cases h

theorem act_min (r : Rl F σ a w g) {as : Array Operand} {ts : Array TypeId} (ho : o.op = .call { callee := .builtin .min, args := as, argTypes := ts })
    (h : act tt env k o (o.op.operands.toList.map σ.ev) H K = some y) : Goal P F σ a w g o K y := by
  unfold act at h
  rw [ho] at h
  simp only [Op.operands, Call.operands, Array.empty_append] at h
  obtain ⟨l, rfl⟩ : ∃ l : List Operand, as = l.toArray := ⟨as.toList, by simp⟩
  match l, h with
  | [], h => cases h
  | [z], h => simp only [List.map_cons, List.map_nil] at h; generalize σ.ev z = v1 at h; rcases v1 with v1 | v1 | v1 <;> first | (cases h; done) | (cases v1 <;> cases h; done)
  | z :: z' :: z2 :: l', h =>
    simp only [List.map_cons] at h
    generalize σ.ev z = v1 at h
    generalize σ.ev z' = v2 at h
    rcases v1 with v1 | v1 | v1 <;> rcases v2 with v2 | v2 | v2 <;> first | (cases h; done) | (cases v1 <;> cases v2 <;> cases h; done)
  | [p, q], h =>
    simp only [List.map_cons, List.map_nil] at h
    have hp := ev_sound r p
    have hq := ev_sound r q
    generalize σ.ev p = v1 at h hp
    generalize σ.ev q = v2 at h hq
    rcases v1 with v1 | v1 | v1 <;> rcases v2 with v2 | v2 | v2 <;> try (cases h; done)
    · cases v1 <;> cases v2 <;> try (cases h; done)
      rename_i k1 x k2 z
      have hp : a.eval p = .int k1 x := hp
      have hq : a.eval q = .int k2 z := hq
      dsimp only at h
      split at h
      · refine goal_pure r h (x := .int k1 (mnI x z)) ?_ rfl
        unfold execOp
        rw [ho]
        simp [resolve, invoke, builtin, Builtin.min_, Builtin.min2, hp, hq, mnI]
      · cases h
    all_goals (cases v1 <;> cases h)

theorem act_max (r : Rl F σ a w g) {as : Array Operand} {ts : Array TypeId} (ho : o.op = .call { callee := .builtin .max, args := as, argTypes := ts })
    (h : act tt env k o (o.op.operands.toList.map σ.ev) H K = some y) : Goal P F σ a w g o K y := by
  unfold act at h
  rw [ho] at h
  simp only [Op.operands, Call.operands, Array.empty_append] at h
  obtain ⟨l, rfl⟩ : ∃ l : List Operand, as = l.toArray := ⟨as.toList, by simp⟩
  match l, h with
  | [], h => cases h
  | [z], h => simp only [List.map_cons, List.map_nil] at h; generalize σ.ev z = v1 at h; rcases v1 with v1 | v1 | v1 <;> first | (cases h; done) | (cases v1 <;> cases h; done)
  | z :: z' :: z2 :: l', h =>
    simp only [List.map_cons] at h
    generalize σ.ev z = v1 at h
    generalize σ.ev z' = v2 at h
    rcases v1 with v1 | v1 | v1 <;> rcases v2 with v2 | v2 | v2 <;> first | (cases h; done) | (cases v1 <;> cases v2 <;> cases h; done)
  | [p, q], h =>
    simp only [List.map_cons, List.map_nil] at h
    have hp := ev_sound r p
    have hq := ev_sound r q
    generalize σ.ev p = v1 at h hp
    generalize σ.ev q = v2 at h hq
    rcases v1 with v1 | v1 | v1 <;> rcases v2 with v2 | v2 | v2 <;> try (cases h; done)
    · cases v1 <;> cases v2 <;> try (cases h; done)
      rename_i k1 x k2 z
      have hp : a.eval p = .int k1 x := hp
      have hq : a.eval q = .int k2 z := hq
      dsimp only at h
      split at h
      · refine goal_pure r h (x := .int k1 (mxI x z)) ?_ rfl
        unfold execOp
        rw [ho]
        simp [resolve, invoke, builtin, Builtin.max_, Builtin.max2, hp, hq, mxI]
      · cases h
    all_goals (cases v1 <;> cases h)

theorem act_convert (htt : TTok P tt) (r : Rl F σ a w g) (hH : HOk H σ.h o.dst) {s t : TypeId} {x : Operand} (ho : o.op = .convert s t x) (h : act tt env k o (o.op.operands.toList.map σ.ev) H K = some y) : Goal P F σ a w g o K y := by
  unfold act at h
  rw [ho] at h
  simp only [Op.operands, List.map_cons, List.map_nil] at h
  have hx := ev_sound r x
  cases ex : σ.ev x with
  | one v =>
    rw [ex] at h hx
    dsimp only at h
    cases hk : kindT tt t with
    | none => rw [hk] at h; cases h
    | some c =>
      rw [hk] at h
      obtain ⟨b, fs, hl⟩ := kindT_some hk
      cases c <;> try (cases h; done)
      case int k =>
        cases v <;> try (cases h; done)
        rename_i k' n
        have hb : a.eval x = .int k' n := hx
        have ht := htt.int _ _ _ _ hl
        cases hs : kindT tt s with
        | none => rw [hs] at h; cases h
        | some c' =>
          rw [hs] at h
          cases c' <;> try (cases h; done)
          rename_i k2
          obtain ⟨b', fs', hl'⟩ := kindT_some hs
          have hs' := htt.int _ _ _ _ hl'
          dsimp only at h
          refine goal_pure r h (x := .int k (k.wrap n)) ?_ rfl
          unfold execOp
          rw [ho]
          simp [convert, run_underlying ht, run_underlying hs', hb, Conv.intToInt]
      case str =>
        dsimp only at h
        cases hs : kindT tt s with
        | none => rw [hs] at h; cases h
        | some c' =>
          rw [hs] at h
          have hc' : c' = .sl (.int .u8) := by
            cases c' <;> try (cases h; done)
            rename_i e'
            cases e' <;> try (cases h; done)
            rename_i k'
            cases k' <;> first | rfl | cases h
          subst hc'
          dsimp only at h
          obtain ⟨b', fs', hl'⟩ := kindT_some hs
          obtain ⟨et, u1, u2⟩ := htt.elt _ _ _ _ hl'
          have ht := htt.str _ _ _ hl
          cases hv : slOf H .bor v (.int .u8) with
          | none => rw [hv] at h; cases h
          | some q =>
            obtain ⟨xs, ids⟩ := q
            rw [hv] at h
            dsimp only at h
            obtain ⟨v', hv', hh⟩ := slOf_shared r hH hv hx (Z' := fun _ => True) (fun _ _ => trivial) (fun _ _ _ _ => trivial)
            simp only [List.cons.injEq, and_true] at hv'
            have run : ∀ A cap, a.eval x = .slice A xs.length cap → (Conv.bytesToString (a.eval x)).run P w = .ok (strV (bytesOf xs)) w → (execOp a.eval o).run P w = .ok (.value (strV (bytesOf xs))) w := by
              intro A cap hA hr
              unfold execOp
              rw [ho]
              rw [hA] at hr
              simp only [hA, Sem.run_bind, run_convert_bytes_string w s t et A _ cap u1 u2 ht, hr, Result.andThen_ok]
              rfl
            refine goal_pure r h (x := strV (bytesOf xs)) ?_ rfl
            rcases hh with ⟨hd, _⟩ | ⟨_, _, A, cap, rfl, hc, hh⟩
            · cases hd
            · refine run A cap hv' ?_
              rw [hv']
              cases A with
              | none =>
                rcases hh with hh | ⟨b, off, vs, fs, hA, _⟩
                · subst hh; rfl
                · cases hA
              | some ad =>
                rcases hh with hh | ⟨b, off, vs, fs, hA, c1, c2, _⟩
                · subst hh
                  rw [run_bytesToString w ad _ cap [] (by simp [loadCells, loadCellsFrom])]
                  rfl
                · cases hA
                  have hvs := Cat.ints c2
                  have hlen : vs.length = xs.length := by rw [hvs, List.length_map]
                  rw [run_bytesToString w _ _ cap xs]
                  · rw [foldl_push]
                    simp [strV]
                  · have := run_loadCells_list (P := P) w ⟨b, off, none⟩ vs (fun j v hj => by rw [Addr.add_lit]; exact c1 j v hj)
                    rw [hlen, hvs] at this
                    exact this
  | _ => rw [ex] at h; cases h

theorem act_field (htt : TTok P tt) (r : Rl F σ a w g) {t : TypeId} {x : Operand} {f : Nat} (ho : o.op = .field t x f) (h : act tt env k o (o.op.operands.toList.map σ.ev) H K = some y) : Goal P F σ a w g o K y := by
  unfold act at h
  rw [ho] at h
  simp only [Op.operands, List.map_cons, List.map_nil] at h
  have hx := ev_sound r x
  cases ex : σ.ev x with
  | agg cs =>
    rw [ex] at h hx
    dsimp only at h
    cases hf : fieldT tt t f with
    | none => rw [hf] at h; cases h
    | some q =>
      obtain ⟨off, d⟩ := q
      rw [hf] at h
      dsimp only at h
      obtain ⟨hle, h⟩ := cond_some h
      have hle := Nat.le_of_ble_eq_true hle
      have hl : ∃ c b fs, look tt t = some (.val c b fs) ∧ fs[f]? = some (off, d) := by
        unfold fieldT at hf
        split at hf
        · rename_i c b fs hl; exact ⟨c, b, fs, hl, hf⟩
        · cases hf
      obtain ⟨c, b, fs, hl, hfs⟩ := hl
      obtain ⟨Fs, fl, u1, u2, u3, u4, u5, u6⟩ := htt.fld _ _ _ _ _ _ _ hl hfs
      obtain ⟨us, hu, hall⟩ := hx
      have hlen := hall.length
      have hall' := (hall.drop off).take d.size
      refine goal_pure r h (x := valV d ((us.drop off).take d.size)) ?_ (toSV_sound hall' (by rw [List.length_take, List.length_drop]; omega))
      unfold execOp
      rw [ho]
      simp only [hu, Instr.field, Sem.run_bind, run_underlying u1, Result.andThen_ok, u2, u3, asAgg, Sem.run_pure, part, u4.agg, valV]
      cases hd : d.isAgg with
      | true =>
        simp only [if_true, Sem.run_bind, u4.size, Result.andThen_ok, Sem.run_pure, cond_true]
        congr 3
        simp
      | false =>
        have h1 := size_of_not_agg hd
        rw [h1] at hle ⊢
        have : off < us.length := by omega
        have e : (us.drop off).take 1 = [us[off]] := by rw [List.drop_eq_getElem_cons this]; rfl
        rw [e]
        simp [this]
  | _ => rw [ex] at h; cases h

/-! ### loads -/
theorem expS_sound {g : Gh} {w : World} {h : Nat → RE} : ∀ {c : CK} {x : c.den} {us : List Value}, Has g.Z w false c x us [] → All2 (CVr g w h) (expS c x) us
  | .int k, n, us, hu => by rw [hu.1]; exact ⟨rfl, trivial⟩
  | .bool, n, us, hu => by rw [hu.1]; exact ⟨rfl, trivial⟩
  | .str, n, us, hu => by rw [hu.1]; exact ⟨rfl, trivial⟩
  | .unit, n, us, hu => by rw [hu.1]; trivial
  | .sl e, xs, us, hu => by
    obtain ⟨v, rfl, hh⟩ := hu
    exact ⟨⟨v, rfl, hh⟩, trivial⟩
  | .pair p q, x, us, ⟨u1, u2, f1, f2, h1, h2, h3, h4⟩ => by
    rw [h1]
    have : f1 = [] ∧ f2 = [] := by simpa using h2.symm
    obtain ⟨rfl, rfl⟩ := this
    exact (expS_sound h3).append (expS_sound h4)

theorem expS_len : ∀ (c : CK) (x : c.den), (expS c x).length = c.size
  | .int k, n => rfl
  | .bool, n => rfl
  | .str, n => rfl
  | .unit, n => rfl
  | .sl e, xs => rfl
  | .pair p q, x => by simp [expS, expS_len p, expS_len q, CK.size]

/-- The cells of a deep value: its slices are named by their places. -/
theorem expD_sound {g : Gh} {w : World} {h : Nat → RE} {mk : Nat → CV} {Z : Nat → Prop} {d : Bool} : ∀ {c : CK} {x : c.den} {us : List Value} {fp : List Nat} {off : Nat}, Has Z w d c x us fp →
    (∀ j e u, c.cell j = some (.sl e) → us[j]? = some u → u.oneCell' = true → CVr g w h (mk (off + j)) u) → All2 (CVr g w h) (expD mk c x off) us
  | .int k, n, us, _, _, hu, _ => by rw [hu.1]; exact ⟨rfl, trivial⟩
  | .bool, n, us, _, _, hu, _ => by rw [hu.1]; exact ⟨rfl, trivial⟩
  | .str, n, us, _, _, hu, _ => by rw [hu.1]; exact ⟨rfl, trivial⟩
  | .unit, n, us, _, _, hu, _ => by rw [hu.1]; trivial
  | .sl e, xs, us, _, off, hu, hm => by
    obtain ⟨v, rfl, hh⟩ := hu
    refine ⟨hm 0 e v rfl rfl ?_, trivial⟩
    rcases hh with ⟨_, A, cap, rfl, _⟩ | ⟨_, _, A, cap, rfl, _⟩ <;> rfl
  | .pair p q, x, us, _, off, ⟨u1, u2, f1, f2, h1, h2, h3, h4⟩, hm => by
    subst h1
    have hl := h3.len
    refine (expD_sound h3 (fun j e u hj hu h1c => hm j e u ?_ ?_ h1c)).append (expD_sound h4 (fun j e u hj hu h1c => ?_))
    · have : j < p.size := by rw [← hl]; exact (List.getElem?_eq_some_iff.1 hu).1
      simp only [CK.cell]
      rw [show Nat.blt j p.size = true by rw [Nat.blt_eq]; exact this]
      exact hj
    · rw [List.getElem?_append_left (List.getElem?_eq_some_iff.1 hu).1]; exact hu
    · have := hm (p.size + j) e u (by
        simp only [CK.cell]
        rw [show Nat.blt (p.size + j) p.size = false by
          cases hb : Nat.blt (p.size + j) p.size with
          | false => rfl
          | true => rw [Nat.blt_eq] at hb; omega]
        simpa using hj) (by rw [List.getElem?_append_right (by omega)]; rw [hl]; simpa using hu) h1c
      rwa [Nat.add_assoc]

theorem expD_len (mk : Nat → CV) : ∀ (c : CK) (x : c.den) (off : Nat), (expD mk c x off).length = c.size
  | .int k, n, _ => rfl
  | .bool, n, _ => rfl
  | .str, n, _ => rfl
  | .unit, n, _ => rfl
  | .sl e, xs, _ => rfl
  | .pair p q, x, off => by simp [expD, expD_len mk p, expD_len mk q, CK.size]

theorem RowAt.snoc {w : World} : ∀ {p : Path} {e e' : CK} {v v' u : Value} {i : Int} {off : Nat} {b o len cap : Nat} {e1 : CK}, RowAt w e v p v' → kindRow e p = some e' → v' = .slice (some ⟨b, o, none⟩) len cap → 0 ≤ i → i < (len : Int) →
    e'.cell off = some (.sl e1) → w.cell? ⟨b, o + (i.toNat * e'.size + off), none⟩ = some u → RowAt w e v (p ++ [(i, off)]) u
  | [], e, e', v, v', u, i, off, b, o, len, cap, e1, h, hk, hv, h0, h1, hc, hu => by
    simp only [kindRow, Option.some.injEq] at hk
    subst hk
    simp only [RowAt] at h
    subst h
    exact ⟨b, o, len, cap, u, e1, hv, h0, h1, hc, hu, rfl⟩
  | (j, o2) :: p, e, e', v, v', u, i, off, b, o, len, cap, e1, h, hk, hv, h0, h1, hc, hu => by
    obtain ⟨b2, o3, len2, cap2, u2, e2, m1, m2, m3, m4, m5, m6⟩ := h
    simp only [kindRow, m4] at hk
    exact ⟨b2, o3, len2, cap2, u2, e2, m1, m2, m3, m4, m5, RowAt.snoc m6 hk hv h0 h1 hc hu⟩

theorem CK.cell_lens : ∀ {e : CK} {off : Nat} {c : CK} {L : Lens e c}, e.lens off c = some L → ∀ {j : Nat} {e1 : CK}, c.cell j = some (.sl e1) → e.cell (off + j) = some (.sl e1)
  | e, off, c, L, hL, j, e1, hc => by
    by_cases h : e = c ∧ off = 0
    · obtain ⟨rfl, rfl⟩ := h
      simpa using hc
    · match e with
      | .pair p q =>
        rw [CK.lens.eq_def] at hL
        dsimp only at hL
        rw [dif_neg h] at hL
        have hcj : j < c.size ∨ ∀ x, c.cell j ≠ some (.sl x) := by
          have key : ∀ (c : CK) (j : Nat) (x : CK), c.cell j = some (.sl x) → j < c.size := by
            intro c
            induction c with
            | pair a b iha ihb =>
              intro j x hx
              simp only [CK.cell] at hx
              cases hb : Nat.blt j a.size with
              | true => rw [Nat.blt_eq] at hb; simp only [CK.size]; omega
              | false =>
                rw [hb] at hx
                have := ihb _ _ hx
                simp only [CK.size]; omega
            | sl e _ =>
              intro j x hx
              simp only [CK.cell] at hx
              cases hb : Nat.beq j 0 with
              | true => have := Nat.eq_of_beq_eq_true hb; subst this; simp [CK.size]
              | false => rw [hb] at hx; cases hx
            | unit => intro j x hx; simp only [CK.cell] at hx; cases hb : Nat.beq j 0 <;> rw [hb] at hx <;> cases hx
            | int k => intro j x hx; simp only [CK.cell] at hx; cases hb : Nat.beq j 0 <;> rw [hb] at hx <;> cases hx
            | bool => intro j x hx; simp only [CK.cell] at hx; cases hb : Nat.beq j 0 <;> rw [hb] at hx <;> cases hx
            | str => intro j x hx; simp only [CK.cell] at hx; cases hb : Nat.beq j 0 <;> rw [hb] at hx <;> cases hx
          exact .inl (key c j e1 hc)
        have hj : j < c.size := hcj.resolve_right (fun h => h e1 hc)
        simp only [CK.cell]
        cases hb : Nat.blt off p.size with
        | true =>
          rw [hb] at hL
          simp only [cond_true, Option.map_eq_some_iff] at hL
          obtain ⟨L', hL', rfl⟩ := hL
          have ih := CK.cell_lens hL' hc
          have hlt : off + c.size ≤ p.size := by
            have hz := CK.lens_spec (Z := fun _ => True) (w := default) (m := false) hL' (Has.zero (fun _ => True) default false p)
            obtain ⟨w1, wm, w2, f1, fm, f2, e1', e2, e3, e4, _⟩ := hz
            have a1 := (Has.zero (fun _ => True) (default : World) false p).len
            have a2 := e4.len
            rw [e1'] at a1
            simp only [List.length_append] at a1
            omega
          rw [show Nat.blt (off + j) p.size = true by rw [Nat.blt_eq]; omega]
          exact ih
        | false =>
          rw [hb] at hL
          simp only [cond_false, Option.map_eq_some_iff] at hL
          obtain ⟨L', hL', rfl⟩ := hL
          have ih := CK.cell_lens hL' hc
          have hge : p.size ≤ off := by
            rw [← Nat.not_lt, ← Nat.blt_eq]
            intro hlt
            rw [hlt] at hb
            cases hb
          rw [show Nat.blt (off + j) p.size = false by
            cases hb : Nat.blt (off + j) p.size with
            | false => rfl
            | true => rw [Nat.blt_eq] at hb; omega]
          rwa [show off + j - p.size = off - p.size + j by omega]
      | .int _ | .bool | .str | .sl _ | .unit => rw [CK.lens.eq_def] at hL; dsimp only at hL; rw [dif_neg h] at hL; cases hL

theorem act_load (htt : TTok P tt) (r : Rl F σ a w g) (hH : HOk H σ.h o.dst) {t : TypeId} {x : Operand} (ho : o.op = .load t x) (h : act tt env k o (o.op.operands.toList.map σ.ev) H K = some y) : Goal P F σ a w g o K y := by
  unfold act at h
  rw [ho] at h
  simp only [Op.operands, List.map_cons, List.map_nil] at h
  have hx := ev_sound r x
  cases ex : σ.ev x with
  | one v =>
    rw [ex] at h hx
    dsimp only at h
    cases hk : kindT tt t with
    | none => rw [hk] at h; cases h
    | some c =>
      rw [hk] at h
      dsimp only at h
      obtain ⟨b, fs, hl⟩ := kindT_some hk
      have ht := htt.is _ _ _ _ hl
      have run : ∀ b off us, a.eval x = .pointer (some ⟨b, off, none⟩) → CellsAt w b off us → us.length = c.size → (execOp a.eval o).run P w = .ok (.value (valV c us)) w := by
        intro b off us hb hc hlen
        unfold execOp
        rw [ho]
        simp only [hb, Instr.loadAt, Instr.sureAddr, Sem.run_bind, Sem.run_pure, Result.andThen_ok, run_loadVar ht hc hlen]
      cases v <;> try (cases h; done)
      case vptr id inc off =>
        dsimp only at h
        cases hv : varAt H id inc with
        | none => rw [hv] at h; cases h
        | some cs =>
          rw [hv] at h
          obtain ⟨hle, h⟩ := cond_some h
          have hle := Nat.le_of_ble_eq_true hle
          obtain ⟨k1, k2, k3⟩ := varAt_sound r hH hv
          obtain ⟨bl, h1, h2⟩ := hx.2 k2 cs k3
          obtain ⟨b', us, ty, m1, m2, m3, m4⟩ := r.var k3
          rw [h1] at m1
          simp only [Value.pointer.injEq, Option.some.injEq, Addr.mk.injEq, and_true] at m1
          subst m1
          have hlen := m4.length
          have hall := (m4.drop off).take c.size
          refine goal_pure r h (run bl off ((us.drop off).take c.size) h2 ?_ (by rw [List.length_take, List.length_drop]; omega)) (toSV_sound hall (by rw [List.length_take, List.length_drop]; omega))
          intro j u hj
          rw [List.getElem?_take] at hj
          split at hj
          · rw [List.getElem?_drop] at hj
            rw [cell_of_row w bl (off + j) _ ty _ m3]
            simpa using hj
          · cases hj
      case rp c' z =>
        dsimp only at h
        split at h
        · rename_i he
          subst he
          obtain ⟨bl, off, us, h1, h2, h3, h4⟩ := hx
          exact goal_pure r h (run bl off us h1 h3 h4.len) (toSV_sound (expS_sound h4) (expS_len _ _))
        · cases h
      case ptr id inc ver p i off c' =>
        dsimp only at h
        split at h
        · rename_i he
          subst he
          cases hv : rowAt H id inc ver p with
          | none => rw [hv] at h; cases h
          | some R =>
            rw [hv] at h
            dsimp only at h
            cases hL : R.e.lens off c' with
            | none => rw [hL] at h; cases h
            | some L =>
              rw [hL] at h
              dsimp only at h
              obtain ⟨k1, k2, k3, e0, xs0, k4, k5⟩ := rowAt_sound r hH hv
              obtain ⟨bl, oo, len, cap, h1, h2, h3, h4⟩ := ptr_some (c := c') r hH hv hx
              obtain ⟨f1, fm, f2, m1, m2, _⟩ := r.row hH hv (fun d e xs hc => h4 d e (by rw [hc]; rfl))
              have hlen : (len : Int) = R.xs.length := by
                obtain ⟨A, cap', hA, _⟩ := m2
                cases hA
                rfl
              obtain ⟨b2, o2, cap2, f1', fm', f2', um, n1, n2, n3, n4, n5, n6, n7, _⟩ := RowOwn.elem m2 h2 (by omega) hL
              cases n1
              rw [← Nat.add_assoc, Nat.add_assoc oo] at n6
              have hrun := run bl _ um h1 n6 n7.len
              cases hfl : (c'.flat || !R.d) with
              | true =>
                rw [hfl] at h
                simp only [cond_true] at h
                have hs : Has g.Z w false c' (L.get (rdL R.xs i R.e.dflt)) um [] := by
                  rw [Bool.or_eq_true] at hfl
                  rcases hfl with hf | hd
                  · exact (Has.flat hf n7).2 _ _ _
                  · have hd : R.d = false := by simpa using hd
                    rw [hd] at n7
                    have := Has.fp_false n7
                    subst this
                    exact n7
                exact goal_pure r h hrun (toSV_sound (expS_sound hs) (expS_len _ _))
              | false =>
                rw [hfl] at h
                simp only [cond_false] at h
                have hd : R.d = true := by
                  rw [Bool.or_eq_false_iff] at hfl
                  simpa using hfl.2
                refine goal_pure r h hrun (toSV_sound (expD_sound n7 (fun j e1 u hj hu h1c => ?_)) (expD_len _ _ _ _))
                refine ⟨⟨hx.1.1.1, fun _ => ?_, h1c⟩, fun d' e' hc' _ => ?_⟩
                · rw [k1]; exact Nat.le_refl _
                · have hkr : kindRow e' p = some R.e := by rw [k4] at hc'; cases hc'; exact kindRow_of_get k5
                  have hcell := n6 j u hu
                  refine RowAt.snoc (h4 d' e' hc') hkr rfl h2 (by omega) (CK.cell_lens hL hj) ?_
                  rw [← hcell]
                  congr 2
                  omega
        · cases h
  | _ => rw [ex] at h; cases h
end
end VM

/- Cutting. Then the operations that make or write memory. -/
set_option linter.unusedVariables false
set_option linter.unusedSimpArgs false
namespace VM
open Go

section
variable {P : Program} {F : Fx} {σ : St} {a : Act} {w : World} {g : Gh} {R : Type} {tt : List (Nat × TD)} {env : List Ct} {k : Nat} {o : Oper} {H : Nat → RE} {K : Upd → Option R} {y : R}

theorem intsOf_sound : ∀ {vs : List SV} {us : List Value} {bs : List Int}, intsOf vs = some bs → All2 (SVr g w σ.h) vs us → us = bs.map (Value.int .i64)
  | [], [], bs, h, _ => by simp only [intsOf, Option.some.injEq] at h; subst h; rfl
  | v :: vs, u :: us, bs, h, ⟨h1, h2⟩ => by
    cases v with
    | one v =>
      cases v with
      | int kk n =>
        cases kk <;> simp only [intsOf] at h <;> try cases h
        cases hr : intsOf vs with
        | none => rw [hr] at h; cases h
        | some r =>
          rw [hr] at h
          simp only [Option.some.injEq] at h
          subst h
          rw [intsOf_sound hr h2, show u = Value.int .i64 n from h1]
          rfl
      | _ => simp [intsOf] at h
    | _ => simp [intsOf] at h
  | [], _ :: _, _, _, h => h.elim
  | _ :: _, [], _, _, h => h.elim

theorem run_bound (kk : BoundsCode) {n : Int} {m : Nat} (h0 : 0 ≤ n) (h1 : n ≤ (m : Int)) : (Instr.sliceBound (.int .i64 n) m kk).run P w = .ok n.toNat w := by
  simp [Instr.sliceBound, asIntOf, h0, h1]

/-- The three numbers of a cut. -/
theorem run_bounds {isS : Bool} {len cap : Nat} {lo hi : Option Operand} {bs : List Int} (hb : okBs lo hi bs = true) (hl : len ≤ cap)
    (hlo : 0 ≤ loB lo bs) (hlh : loB lo bs ≤ hiB lo hi bs len) (hh : hiB lo hi bs len ≤ len) {ρ : Operand → Value} (hus : (lo.toList ++ hi.toList).map ρ = bs.map (Value.int .i64)) :
    (Instr.sliceBounds isS len cap (lo.map ρ) (hi.map ρ) none).run P w = .ok ((loB lo bs).toNat, (hiB lo hi bs len).toNat, cap) w := by
  match lo, hi, bs, hb with
  | none, none, [], _ => simp [Instr.sliceBounds, loB, hiB]
  | some p, none, [b], _ =>
    have h1 : ρ p = .int .i64 b := by simpa using hus
    have hlo : 0 ≤ b := hlo
    have hlh : b ≤ (len : Int) := hlh
    simp only [Option.map_some, Option.map_none, h1, Instr.sliceBounds, Sem.run_bind, Sem.run_pure, Result.andThen_ok]
    rw [run_bound _ hlo hlh]
    simp [loB, hiB]
  | none, some p, [b], _ =>
    have h1 : ρ p = .int .i64 b := by simpa using hus
    have hlh : 0 ≤ b := hlh
    have hh : b ≤ (len : Int) := hh
    simp only [Option.map_some, Option.map_none, h1, Instr.sliceBounds, Sem.run_bind, Sem.run_pure, Result.andThen_ok]
    rw [run_bound _ hlh (by omega)]
    simp [loB, hiB]
  | some p, some q, [b, c], _ =>
    have h1 : ρ p = .int .i64 b ∧ ρ q = .int .i64 c := by simpa using hus
    have hlo : 0 ≤ b := hlo
    have hlh : b ≤ c := hlh
    have hh : c ≤ (len : Int) := hh
    simp only [Option.map_some, h1.1, h1.2, Instr.sliceBounds, Sem.run_bind, Sem.run_pure, Result.andThen_ok]
    rw [run_bound _ (by omega) (by omega)]
    simp only [Result.andThen_ok]
    rw [run_bound _ hlo (by omega)]
    simp [loB, hiB]

theorem strV_extract (s : List UInt8) (l h : Nat) : Value.string ((ByteArray.mk s.toArray).extract l h) = strV ((s.drop l).take (h - l)) := by
  unfold strV
  congr 1
  apply ByteArray.ext
  rw [ByteArray.data_extract]
  apply Array.ext'
  simp [List.extract_eq_take_drop]

theorem act_slice (htt : TTok P tt) (r : Rl F σ a w g) (hH : HOk H σ.h o.dst) {t : TypeId} {x : Operand} {lo hi mx : Option Operand} (ho : o.op = .slice t x lo hi mx)
    (h : act tt env k o (o.op.operands.toList.map σ.ev) H K = some y) : Goal P F σ a w g o K y := by
  unfold act at h
  rw [ho] at h
  cases mx with
  | some m => cases h
  | none =>
  have hops : (Op.slice t x lo hi none).operands.toList.map σ.ev = σ.ev x :: ((lo.toList ++ hi.toList).map σ.ev) := by
    cases lo <;> cases hi <;> rfl
  rw [hops] at h
  have hx := ev_sound r x
  cases ex : σ.ev x with
  | agg => rw [ex] at h; cases h
  | tup => rw [ex] at h; cases h
  | one v =>
    rw [ex] at h hx
    dsimp only at h
    have hall : All2 (SVr g w σ.h) ((lo.toList ++ hi.toList).map σ.ev) ((lo.toList ++ hi.toList).map a.eval) := by
      generalize lo.toList ++ hi.toList = l
      induction l with
      | nil => trivial
      | cons z l ih => exact ⟨ev_sound r z, ih⟩
    cases hb : intsOf ((lo.toList ++ hi.toList).map σ.ev) with
    | none => rw [hb] at h; cases h
    | some bs =>
      rw [hb] at h
      have hus := intsOf_sound hb hall
      cases hk : kindT tt t with
      | none => rw [hk] at h; cases h
      | some c =>
        rw [hk] at h
        obtain ⟨bb, fs, hlo⟩ := kindT_some hk
        cases hn : lenV H v with
        | none => rw [hn] at h; cases h
        | some n =>
          rw [hn] at h
          dsimp only at h
          obtain ⟨hok, h1⟩ := cond_some h
          clear h
          obtain ⟨hg, h⟩ := grd_some h1
          clear h1
          simp only [Bool.and_eq_true, decide_eq_true_eq] at hg
          obtain ⟨⟨g1, g2⟩, g3⟩ := hg
          rcases lenV_sound r hH hn hx with ⟨s, rfl, hu, rfl⟩ | ⟨hns, A, len, cap, hu, rfl, hlc⟩
          · cases c <;> try (cases h; done)
            dsimp only at h
            have ht := htt.str _ _ _ hlo
            have hz : (ByteArray.mk s.toArray).size = s.length := by simp [ByteArray.size]
            have hrb := run_bounds (P := P) (w := w) (isS := false) hok (Nat.le_refl s.length) g1 g2 g3 hus
            obtain ⟨l, hl⟩ : ∃ l, l = loB lo bs := ⟨_, rfl⟩
            obtain ⟨hh, hhh⟩ : ∃ h, h = hiB lo hi bs (s.length : Int) := ⟨_, rfl⟩
            rw [← hl, ← hhh] at g2 hrb h
            rw [← hl] at g1
            rw [← hhh] at g3
            refine goal_pure r h (x := strV (subL s l hh)) ?_ rfl
            unfold execOp
            rw [ho]
            have e1 : (hh - l).toNat = hh.toNat - l.toNat := by omega
            simp only [hu, strV, Instr.sliceAt, Instr.slice, Sem.run_bind, run_underlying ht, Result.andThen_ok, Option.map_none, Option.isSome_none, Bool.false_eq_true, if_false, hz, hrb]
            simp only [Sem.run_pure, strV_extract, e1, subL]
            rfl
          · cases c with
            | str =>
              cases v <;> first | (cases h; done) | exact absurd rfl (hns _)
            | sl e' =>
              obtain ⟨et, u1, u2, u3, _⟩ := htt.sl _ _ _ _ hlo
              have hrb := run_bounds (P := P) (w := w) (isS := true) hok hlc g1 g2 g3 hus
              obtain ⟨l, hl⟩ : ∃ l, l = loB lo bs := ⟨_, rfl⟩
              obtain ⟨hh, hhh⟩ : ∃ h, h = hiB lo hi bs (len : Int) := ⟨_, rfl⟩
              rw [← hl, ← hhh] at g2 hrb h
              rw [← hl] at g1
              rw [← hhh] at g3
              have run : (execOp a.eval o).run P w = .ok (.value (.slice (if cap = l.toNat then A else A.map (·.add (l.toNat * e'.size))) (hh.toNat - l.toNat) (cap - l.toNat))) w := by
                unfold execOp
                rw [ho]
                simp [hu, Instr.sliceAt, Instr.slice, run_underlying u1, hrb, u2.size]
              have hsub : SubV e'.size (a.eval x) l hh (.slice (if cap = l.toNat then A else A.map (·.add (l.toNat * e'.size))) (hh.toNat - l.toNat) (cap - l.toNat)) :=
                ⟨g1, g2, A, len, cap, hu, g3, rfl⟩
              cases v with
              | nil =>
                have hu' : a.eval x = .slice none 0 0 := hx
                rw [hu'] at hu
                cases hu
                have : l = 0 ∧ hh = 0 := by omega
                obtain ⟨rfl, rfl⟩ := this
                exact goal_pure r h run rfl
              | sl e xs =>
                dsimp only at h
                split at h
                · rename_i he
                  subst he
                  refine goal_pure r h run ?_
                  obtain ⟨v', hv', hh'⟩ := hx
                  simp only [List.cons.injEq, and_true] at hv'
                  rcases hh' with ⟨hd, _⟩ | ⟨_, _, hsh⟩
                  · cases hd
                  · rw [← hv'] at hsh
                    exact ⟨_, rfl, .inr ⟨rfl, rfl, hsh.sub hsub⟩⟩
                · cases h
              | row id inc ver p =>
                dsimp only at h
                cases hv : rowAt H id inc ver p with
                | none => rw [hv] at h; cases h
                | some R =>
                  rw [hv] at h
                  dsimp only at h
                  split at h
                  · rename_i he
                    subst he
                    obtain ⟨_, hat⟩ := row_some r hH hv hx
                    exact goal_pure r h run ⟨⟨hx.1.1, hx.1.2.1, rfl⟩, fun d e hc _ => ⟨a.eval x, R.e, (hat d e hc).2, (hat d e hc).1, hsub⟩⟩
                  · cases h
              | _ => cases h
            | _ => cases v <;> (cases h; done)
end
end VM

/- New roots; roots that are given up. -/
set_option linter.unusedVariables false
set_option linter.unusedSimpArgs false
namespace VM
open Go

theorem setH_cons (h : Nat → RE) (i : Nat) (r : RE) (l : List (Nat × RE)) (j : Nat) : setH h ((i, r) :: l) j = if j = i then r else setH h l j := by
  show (bif Nat.beq j i then r else setH h l j) = _
  by_cases e : j = i
  · subst e; simp
  · rw [if_neg e]
    cases hb : Nat.beq j i with
    | false => rfl
    | true => exact absurd (Nat.eq_of_beq_eq_true hb) e

theorem setH_dead (h H : Nat → RE) : ∀ (T : List Nat) (j : Nat), setH h (dead H T) j = if j ∈ T then ⟨(H j).inc + 1, 0, .none⟩ else h j
  | [], j => by simp [dead, setH]
  | t :: T, j => by
    rw [show dead H (t :: T) = (t, ⟨(H t).inc + 1, 0, .none⟩) :: dead H T from rfl, setH_cons, setH_dead h H T j]
    by_cases e : j = t
    · subst e; simp
    · simp [e]

theorem setH_append (h : Nat → RE) : ∀ (l m : List (Nat × RE)) (j : Nat), setH h (l ++ m) j = setH (setH h m) l j
  | [], m, j => rfl
  | (i, r) :: l, m, j => by rw [List.cons_append, setH_cons, setH_cons, setH_append h l m j]

theorem CK.lens_of_cell : ∀ {e : CK} {off : Nat} {e1 : CK}, e.cell off = some (.sl e1) → ∃ L, e.lens off (.sl e1) = some L
  | .pair a b, off, e1, h => by
    simp only [CK.cell] at h
    rw [CK.lens.eq_def]
    dsimp only
    rw [dif_neg (by rintro ⟨h, _⟩; cases h)]
    cases hb : Nat.blt off a.size with
    | true =>
      rw [hb] at h
      obtain ⟨L, hL⟩ := CK.lens_of_cell (e := a) h
      exact ⟨_, by rw [hL]; rfl⟩
    | false =>
      rw [hb] at h
      obtain ⟨L, hL⟩ := CK.lens_of_cell (e := b) h
      exact ⟨_, by rw [hL]; rfl⟩
  | .sl e, off, e1, h => by
    simp only [CK.cell] at h
    cases hb : Nat.beq off 0 with
    | false => rw [hb] at h; cases h
    | true =>
      rw [hb] at h
      have := Nat.eq_of_beq_eq_true hb
      subst this
      simp only [cond_true, Option.some.injEq] at h
      rw [CK.lens.eq_def]
      dsimp only
      rw [dif_pos ⟨h, rfl⟩]
      exact ⟨_, rfl⟩
  | .int k, off, e1, h => by simp only [CK.cell] at h; cases hb : Nat.beq off 0 <;> rw [hb] at h <;> cases h
  | .bool, off, e1, h => by simp only [CK.cell] at h; cases hb : Nat.beq off 0 <;> rw [hb] at h <;> cases h
  | .str, off, e1, h => by simp only [CK.cell] at h; cases hb : Nat.beq off 0 <;> rw [hb] at h <;> cases h
  | .unit, off, e1, h => by simp only [CK.cell] at h; cases hb : Nat.beq off 0 <;> rw [hb] at h <;> cases h

theorem RowAt.frame {Z : Nat → Prop} {w w' : World} : ∀ {p : Path} {e : CK} {xs : List e.den} {v u : Value} {fp : List Nat}, Row Z w true e xs v fp → (∀ b ∈ fp, w'.heap[b]? = w.heap[b]?) → RowAt w e v p u → RowAt w' e v p u
  | [], _, _, _, _, _, _, _, h => h
  | (i, off) :: p, e, xs, v, u, fp, hr, hb, h => by
    obtain ⟨b, o, len, cap, u1, e1, rfl, h0, h1, hc, hu, hat⟩ := h
    obtain ⟨L, hL⟩ := CK.lens_of_cell hc
    have hlen : len = xs.length := by
      obtain ⟨A, cap', hv, _⟩ := hr
      cases hv
      rfl
    subst hlen
    obtain ⟨b', o', cap', f1, fm, f2, um, hv, rfl, hown, hcap, hsz, hcells, hm, hset⟩ := RowOwn.elem hr h0 h1 hL
    cases hv
    obtain ⟨u', rfl, hm⟩ := hm
    rcases hm with ⟨_, hm⟩ | ⟨h, _⟩
    case inr => cases h
    have hu' := hcells 0 u' rfl
    rw [Nat.add_zero, hu] at hu'
    cases hu'
    refine ⟨b, o, xs.length, cap, u1, e1, rfl, h0, h1, hc, ?_, RowAt.frame hm (fun x hx => hb x (by simp [hx])) hat⟩
    rw [World.cell?_of_block (w := w) (a := ⟨b, _, none⟩) (hb b (by simp))]
    exact hu

section
variable {P : Program} {F : Fx} {σ : St} {a : Act} {w : World} {g : Gh}

/-- A root is made anew, some are given up; only blocks of those may have turned. -/
theorem Rl.make (r : Rl F σ a w g) {H : Nat → RE} {m : Nat} (hm : H m = σ.h m) (hm1 : ∀ p ∈ F.P0, p.1 ≠ m) {T : List Nat} (hT : ∀ id ∈ T, H id = σ.h id) {c : RC} {v : Value} {fp : List Nat} {w' : World} {Z' : Nat → Prop}
    (hZZ : ∀ b, g.Z b → Z' b) (hZT : ∀ b, Z' b → g.Z b ∨ ∃ id ∈ T, b ∈ g.fp id)
    (os : w'.os = w.os) (tp : w'.tape = w.tape) (ou : w'.output = w.output) (sz : w.heap.size ≤ w'.heap.size)
    (fr : ∀ b, b < w.heap.size → (∀ id ∈ T, b ∉ g.fp id) → w'.heap[b]? = w.heap[b]?)
    (hfp : fp.Nodup) (hnew : ∀ b ∈ fp, ¬ Z' b ∧ (w.heap.size ≤ b ∨ ∃ id ∈ T, b ∈ g.fp id))
    (hrr : ∀ h' : Nat → RE, ∀ g' : Gh, g'.Z = Z' → Ext g w σ.h g' w' h' → RR g' w' h' ⟨(σ.h m).inc + 1, 0, c⟩ v fp) :
    ∃ g', Rl F ⟨σ.s, setH σ.h ((m, ⟨(H m).inc + 1, 0, c⟩) :: dead H T)⟩ a w' g' ∧ g'.Z = Z' ∧ g'.loc m = v ∧ g'.fp m = fp ∧ (∀ id, id ≠ m → g'.loc id = g.loc id) ∧
      Ext g w σ.h g' w' (setH σ.h ((m, ⟨(H m).inc + 1, 0, c⟩) :: dead H T)) := by
  let g' : Gh := ⟨Z', fun id => if id = m then v else g.loc id, fun id => if id = m then fp else if id ∈ T then [] else g.fp id⟩
  have hh : ∀ id, setH σ.h ((m, ⟨(H m).inc + 1, 0, c⟩) :: dead H T) id = if id = m then ⟨(σ.h m).inc + 1, 0, c⟩ else if id ∈ T then ⟨(σ.h id).inc + 1, 0, .none⟩ else σ.h id := by
    intro id
    rw [setH_cons, setH_dead, hm]
    by_cases e : id = m
    · simp [e]
    · rw [if_neg e, if_neg e]
      by_cases e2 : id ∈ T
      · rw [if_pos e2, if_pos e2, hT id e2]
      · rw [if_neg e2, if_neg e2]
  have hkeep : ∀ id, id ≠ m → id ∉ T → ∀ b ∈ g.fp id, w'.heap[b]? = w.heap[b]? := by
    intro id h1 h2 b hb
    refine fr b ((r.rt id).lt b hb) (fun id' h3 h4 => h2 ?_)
    rw [r.dj id id' b hb h4]
    exact h3
  have hZ : ∀ b, g.Z b → w'.heap[b]? = w.heap[b]? := fun b hb => fr b (r.zl b hb) (fun id _ h => (r.sp id b h).1 hb)
  have x : Ext g w σ.h g' w' (setH σ.h ((m, ⟨(H m).inc + 1, 0, c⟩) :: dead H T)) := by
    refine ⟨hZ, hZZ, fun id => ?_⟩
    rw [hh id]
    by_cases e : id = m
    · subst e; left; simp
    · rw [if_neg e]
      by_cases e2 : id ∈ T
      · left; simp [e2]
      · rw [if_neg e2]
        right
        refine ⟨rfl, Nat.le_refl _, by simp [g', e], SameC.refl _, fun _ ee hkd => ⟨hkd, ⟨by simp [g', e, e2], hkeep id e e2⟩, fun p u hat => ?_⟩⟩
        obtain ⟨xs, hc⟩ := kd_true hkd
        have hrow := r.rt id
        unfold RR at hrow
        rw [hc] at hrow
        exact RowAt.frame hrow (hkeep id e e2) hat
  refine ⟨g', ?_, rfl, by simp [g'], by simp [g'], fun id h => by simp [g', h], x⟩
  refine r.step x ?_ ?_ ?_ ?_ ?_ ?_ os tp ou sz ?_ ?_
  · intro id
    rw [hh id]
    by_cases e : id = m
    · subst e
      simp only [if_true]
      have : g'.loc id = v ∧ g'.fp id = fp := by simp [g']
      rw [this.1, this.2]
      exact hrr _ g' rfl x
    · rw [if_neg e]
      by_cases e2 : id ∈ T
      · rw [if_pos e2]
        simp [RR, g', e, e2]
      · rw [if_neg e2]
        have : g'.loc id = g.loc id ∧ g'.fp id = g.fp id := by simp [g', e, e2]
        rw [this.1, this.2]
        exact (r.rt id).ext x (hkeep id e e2)
  · intro id
    show (if id = m then fp else if id ∈ T then [] else g.fp id).Nodup
    split
    · exact hfp
    · split
      · exact List.nodup_nil
      · exact r.nd id
  · intro id id' b h1 h2
    have key : ∀ id, b ∈ g'.fp id → id = m ∧ b ∈ fp ∨ id ≠ m ∧ id ∉ T ∧ b ∈ g.fp id := by
      intro id h
      have h : b ∈ (if id = m then fp else if id ∈ T then [] else g.fp id) := h
      split at h
      · exact .inl ⟨‹_›, h⟩
      · split at h
        · simp at h
        · exact .inr ⟨‹_›, ‹_›, h⟩
    have excl : ∀ id, id ≠ m → id ∉ T → b ∈ g.fp id → b ∈ fp → False := by
      intro id h1 h2 h3 h4
      rcases (hnew b h4).2 with h5 | ⟨id2, h5, h6⟩
      · have := (r.rt id).lt b h3; omega
      · rw [r.dj id id2 b h3 h6] at h2; exact h2 h5
    rcases key id h1 with ⟨a1, a2⟩ | ⟨a1, a2, a3⟩ <;> rcases key id' h2 with ⟨b1, b2⟩ | ⟨b1, b2, b3⟩
    · rw [a1, b1]
    · exact (excl id' b1 b2 b3 a2).elim
    · exact (excl id a1 a2 a3 b2).elim
    · exact r.dj id id' b a3 b3
  · intro id b h
    have h : b ∈ (if id = m then fp else if id ∈ T then [] else g.fp id) := h
    split at h
    · refine ⟨(hnew b h).1, ?_⟩
      rcases (hnew b h).2 with h5 | ⟨id2, h5, h6⟩
      · exact r.uf b (Nat.le_trans r.sz h5)
      · exact (r.sp id2 b h6).2
    · split at h
      · simp at h
      · rename_i h1 h2
        refine ⟨fun hz => ?_, (r.sp id b h).2⟩
        rcases hZT b hz with h3 | ⟨id2, h3, h4⟩
        · exact (r.sp id b h).1 h3
        · rw [r.dj id id2 b h h4] at h2; exact h2 h3
  · intro b hb
    rcases hZT b hb with h3 | ⟨id2, h3, h4⟩
    · exact Nat.lt_of_lt_of_le (r.zl b h3) sz
    · exact Nat.lt_of_lt_of_le ((r.rt id2).lt b h4) sz
  · intro b hb
    rcases hZT b hb with h3 | ⟨id2, h3, h4⟩
    · exact .inl h3
    · exact .inr (r.sp id2 b h4).2
  · intro b hb hu
    exact fr b hb (fun id _ h => hu (r.sp id b h).2)
  · intro p hp hi
    rw [hh p.1, if_neg (hm1 p hp)] at hi
    refine ⟨?_, by simp [g', hm1 p hp]⟩
    by_cases e2 : p.1 ∈ T
    · rw [if_pos e2] at hi
      have := r.p1 p hp
      simp at hi
      omega
    · rw [if_neg e2] at hi
      exact hi
end
end VM

/- Many roots at once. -/
set_option linter.unusedVariables false
set_option linter.unusedSimpArgs false
namespace VM
open Go

structure Claim where
  id : Nat
  re : RE
  loc : Value
  fp : List Nat
def Claim.pr (q : Claim) : Nat × RE := (q.id, q.re)

def Agr (g : Gh) (h : Nat → RE) (L : List Claim) : Prop := ∀ q ∈ L, h q.id = q.re ∧ g.loc q.id = q.loc ∧ g.fp q.id = q.fp
theorem Agr.left {g h L M} (a : Agr g h (L ++ M)) : Agr g h L := fun q hq => a q (by simp [hq])
theorem Agr.right {g h L M} (a : Agr g h (L ++ M)) : Agr g h M := fun q hq => a q (by simp [hq])

def claimAt : List Claim → Nat → Option Claim
  | [], _ => none
  | q :: L, i => if i = q.id then some q else claimAt L i
theorem claimAt_some : ∀ {L : List Claim} {i : Nat} {q : Claim}, claimAt L i = some q → q ∈ L ∧ q.id = i
  | [], _, _, h => by cases h
  | p :: L, i, q, h => by
    simp only [claimAt] at h
    split at h
    · rename_i e
      simp only [Option.some.injEq] at h
      subst h
      exact ⟨by simp, e.symm⟩
    · obtain ⟨h1, h2⟩ := claimAt_some h
      exact ⟨by simp [h1], h2⟩
theorem claimAt_none : ∀ {L : List Claim} {i : Nat}, claimAt L i = none → ∀ q ∈ L, q.id ≠ i
  | [], _, _, q, hq => by simp at hq
  | p :: L, i, h, q, hq => by
    simp only [claimAt] at h
    split at h
    · cases h
    · rename_i e
      rcases List.mem_cons.1 hq with rfl | hq
      · exact fun h => e h.symm
      · exact claimAt_none h q hq
theorem claimAt_mem : ∀ {L : List Claim}, (L.map (·.id)).Nodup → ∀ q ∈ L, claimAt L q.id = some q
  | [], _, q, hq => by simp at hq
  | p :: L, hn, q, hq => by
    rw [List.map_cons, List.nodup_cons] at hn
    simp only [claimAt]
    rcases List.mem_cons.1 hq with rfl | hq
    · rw [if_pos rfl]
    · rw [if_neg, claimAt_mem hn.2 q hq]
      intro e
      exact hn.1 (List.mem_map.2 ⟨q, hq, e⟩)
theorem setH_claims (h : Nat → RE) : ∀ (L : List Claim) (i : Nat), setH h (L.map Claim.pr) i = match claimAt L i with | some q => q.re | none => h i
  | [], i => rfl
  | q :: L, i => by
    rw [List.map_cons, show Claim.pr q = (q.id, q.re) from rfl, setH_cons]
    simp only [claimAt]
    split
    · rfl
    · exact setH_claims h L i

section
variable {P : Program} {F : Fx} {σ : St} {a : Act} {w : World} {g : Gh} {R : Type} {tt : List (Nat × TD)} {env : List Ct} {k : Nat} {o : Oper} {H : Nat → RE} {K : Upd → Option R} {y : R}

def IsNew (F : Fx) (σ : St) (q : Claim) : Prop := (σ.h q.id).inc < q.re.inc ∧ ∀ p ∈ F.P0, p.1 ≠ q.id
def IsUpd (σ : St) (g : Gh) (q : Claim) : Prop :=
  q.re.inc = (σ.h q.id).inc ∧ (σ.h q.id).ver ≤ q.re.ver ∧ q.loc = g.loc q.id ∧ SameC (σ.h q.id).c q.re.c ∧ (q.re.ver = (σ.h q.id).ver → ∀ e, q.re.c.kd ≠ some (true, e))

theorem mem_flatMap_nodup {L : List Claim} (h : (L.flatMap (·.fp)).Nodup) (hid : (L.map (·.id)).Nodup) {p q : Claim} (hp : p ∈ L) (hq : q ∈ L) {b : Nat} (h1 : b ∈ p.fp) (h2 : b ∈ q.fp) : p.id = q.id := by
  induction L with
  | nil => simp at hp
  | cons s L ih =>
    rw [List.flatMap_cons, List.nodup_append] at h
    rw [List.map_cons, List.nodup_cons] at hid
    rcases List.mem_cons.1 hp with hp1 | hp1 <;> rcases List.mem_cons.1 hq with hq1 | hq1
    · rw [hp1, hq1]
    · rw [hp1] at h1
      exact absurd rfl (h.2.2 b h1 b (List.mem_flatMap.2 ⟨q, hq1, h2⟩))
    · rw [hq1] at h2
      exact absurd rfl (h.2.2 b h2 b (List.mem_flatMap.2 ⟨p, hp1, h1⟩))
    · exact ih h.2.1 hid.2 hp1 hq1

theorem Rl.many (r : Rl F σ a w g) {T : List Nat} (hT : ∀ id ∈ T, H id = σ.h id) {L : List Claim} (hid : (L.map (·.id)).Nodup) (hq : ∀ q ∈ L, IsNew F σ q ∨ (IsUpd σ g q ∧ q.id ∉ T)) {w' : World} {Z' : Nat → Prop}
    (hZZ : ∀ b, g.Z b → Z' b) (hZT : ∀ b, Z' b → g.Z b ∨ (∃ id, (id ∈ T ∨ ∃ q ∈ L, q.id = id) ∧ b ∈ g.fp id) ∨ w.heap.size ≤ b) (hZl : ∀ b, Z' b → b < w'.heap.size)
    (os : w'.os = w.os) (tp : w'.tape = w.tape) (ou : w'.output = w.output) (sz : w.heap.size ≤ w'.heap.size)
    (fr : ∀ b, b < w.heap.size → (∀ id, (id ∈ T ∨ ∃ q ∈ L, q.id = id) → b ∉ g.fp id) → w'.heap[b]? = w.heap[b]?)
    (hnd : (L.flatMap (·.fp)).Nodup) (hnew : ∀ q ∈ L, ∀ b ∈ q.fp, ¬ Z' b ∧ (w.heap.size ≤ b ∨ ∃ id, (id ∈ T ∨ ∃ q ∈ L, q.id = id) ∧ b ∈ g.fp id))
    (hrr : ∀ h' : Nat → RE, ∀ g' : Gh, g'.Z = Z' → Agr g' h' L → ∀ q ∈ L, RR g' w' h' q.re q.loc q.fp) :
    ∃ g', Rl F ⟨σ.s, setH σ.h (L.map Claim.pr ++ dead H T)⟩ a w' g' ∧ g'.Z = Z' ∧ Agr g' (setH σ.h (L.map Claim.pr ++ dead H T)) L ∧ Ext g w σ.h g' w' (setH σ.h (L.map Claim.pr ++ dead H T)) := by
  let g' : Gh := ⟨Z', fun id => match claimAt L id with | some q => q.loc | none => g.loc id, fun id => match claimAt L id with | some q => q.fp | none => if id ∈ T then [] else g.fp id⟩
  have hh : ∀ id, setH σ.h (L.map Claim.pr ++ dead H T) id = match claimAt L id with | some q => q.re | none => if id ∈ T then ⟨(σ.h id).inc + 1, 0, .none⟩ else σ.h id := by
    intro id
    rw [setH_append, setH_claims]
    split
    · rfl
    · rw [setH_dead]
      by_cases e2 : id ∈ T
      · rw [if_pos e2, if_pos e2, hT id e2]
      · rw [if_neg e2, if_neg e2]
  have hkeep : ∀ id, claimAt L id = none → id ∉ T → ∀ b ∈ g.fp id, w'.heap[b]? = w.heap[b]? := by
    intro id h1 h2 b hb
    refine fr b ((r.rt id).lt b hb) (fun id' h3 h4 => ?_)
    have := r.dj id id' b hb h4
    subst this
    rcases h3 with h3 | ⟨q, h3, h5⟩
    · exact h2 h3
    · exact claimAt_none h1 q h3 h5
  have hZ : ∀ b, g.Z b → w'.heap[b]? = w.heap[b]? := fun b hb => fr b (r.zl b hb) (fun id _ h => (r.sp id b h).1 hb)
  have x : Ext g w σ.h g' w' (setH σ.h (L.map Claim.pr ++ dead H T)) := by
    refine ⟨hZ, hZZ, fun id => ?_⟩
    rw [hh id]
    cases hc : claimAt L id with
    | some q =>
      obtain ⟨h1, h2⟩ := claimAt_some hc
      subst h2
      rcases hq q h1 with ⟨h3, _⟩ | ⟨⟨h3, h4, h5, h6, h7⟩, _⟩
      · left; exact h3
      · right
        refine ⟨h3, h4, ?_, h6, fun hv ee hcc => absurd hcc (h7 hv ee)⟩
        show (match claimAt L q.id with | some q => q.loc | none => g.loc q.id) = _
        rw [hc]
        exact h5
    | none =>
      by_cases e2 : id ∈ T
      · left; simp [e2]
      · simp only [if_neg e2]
        right
        refine ⟨trivial, Nat.le_refl _, ?_, SameC.refl _, fun _ ee hkd => ⟨hkd, ⟨?_, hkeep id hc e2⟩, fun p u hat => ?_⟩⟩
        · show (match claimAt L id with | some q => q.loc | none => g.loc id) = _
          rw [hc]
        · show (match claimAt L id with | some q => q.fp | none => if id ∈ T then [] else g.fp id) = _
          rw [hc]
          simp only [if_neg e2]
        · obtain ⟨xs, hcc⟩ := kd_true hkd
          have hrow := r.rt id
          unfold RR at hrow
          rw [hcc] at hrow
          exact RowAt.frame hrow (hkeep id hc e2) hat
  have hagr : Agr g' (setH σ.h (L.map Claim.pr ++ dead H T)) L := by
    intro q hq'
    have := claimAt_mem hid q hq'
    refine ⟨by rw [hh, this], ?_, ?_⟩
    · show (match claimAt L q.id with | some q => q.loc | none => g.loc q.id) = _
      rw [this]
    · show (match claimAt L q.id with | some q => q.fp | none => if q.id ∈ T then [] else g.fp q.id) = _
      rw [this]
  have hfp : ∀ id, g'.fp id = match claimAt L id with | some q => q.fp | none => if id ∈ T then [] else g.fp id := fun _ => rfl
  refine ⟨g', ?_, rfl, hagr, x⟩
  refine r.step x ?_ ?_ ?_ ?_ hZl ?_ os tp ou sz ?_ ?_
  · intro id
    cases hc : claimAt L id with
    | some q =>
      obtain ⟨h1, rfl⟩ := claimAt_some hc
      obtain ⟨a1, a2, a3⟩ := hagr q h1
      rw [a1, a2, a3]
      exact hrr _ g' rfl hagr q h1
    | none =>
      rw [hh id, hfp id]
      simp only [hc]
      by_cases e2 : id ∈ T
      · rw [if_pos e2, if_pos e2]
        simp [RR]
      · rw [if_neg e2, if_neg e2]
        have : g'.loc id = g.loc id := by
          show (match claimAt L id with | some q => q.loc | none => g.loc id) = _
          rw [hc]
        rw [this]
        exact (r.rt id).ext x (hkeep id hc e2)
  · intro id
    rw [hfp id]
    split
    · rename_i q hc
      obtain ⟨h1, _⟩ := claimAt_some hc
      refine hnd.sublist ?_
      exact List.sublist_flatten_of_mem (List.mem_map.2 ⟨q, h1, rfl⟩)
    · split
      · exact List.nodup_nil
      · exact r.nd id
  · intro id id' b h1 h2
    have key : ∀ id, b ∈ g'.fp id → (∃ q ∈ L, q.id = id ∧ b ∈ q.fp) ∨ (claimAt L id = none ∧ id ∉ T ∧ b ∈ g.fp id) := by
      intro id h
      rw [hfp id] at h
      split at h
      · rename_i q hc
        obtain ⟨h1, h2⟩ := claimAt_some hc
        exact .inl ⟨q, h1, h2, h⟩
      · split at h
        · simp at h
        · exact .inr ⟨‹_›, ‹_›, h⟩
    have excl : ∀ id q, claimAt L id = none → id ∉ T → b ∈ g.fp id → q ∈ L → b ∈ q.fp → False := by
      intro id q h1 h2 h3 h4 h5
      rcases (hnew q h4 b h5).2 with h5 | ⟨id2, h5, h6⟩
      · have := (r.rt id).lt b h3; omega
      · have := r.dj id id2 b h3 h6
        subst this
        rcases h5 with h5 | ⟨q', h5, h7⟩
        · exact h2 h5
        · exact claimAt_none h1 q' h5 h7
    rcases key id h1 with ⟨p, a1, a2, a3⟩ | ⟨a1, a2, a3⟩ <;> rcases key id' h2 with ⟨q, b1, b2, b3⟩ | ⟨b1, b2, b3⟩
    · rw [← a2, ← b2]; exact mem_flatMap_nodup hnd hid a1 b1 a3 b3
    · exact (excl id' p b1 b2 b3 a1 a3).elim
    · exact (excl id q a1 a2 a3 b1 b3).elim
    · exact r.dj id id' b a3 b3
  · intro id b h
    rw [hfp id] at h
    split at h
    · rename_i q hc
      obtain ⟨h1, h2⟩ := claimAt_some hc
      refine ⟨(hnew q h1 b h).1, ?_⟩
      rcases (hnew q h1 b h).2 with h5 | ⟨id2, _, h6⟩
      · exact r.uf b (Nat.le_trans r.sz h5)
      · exact (r.sp id2 b h6).2
    · split at h
      · simp at h
      · rename_i hc h2
        refine ⟨fun hz => ?_, (r.sp id b h).2⟩
        rcases hZT b hz with h3 | ⟨id2, h3, h4⟩ | h3
        · exact (r.sp id b h).1 h3
        · have := r.dj id id2 b h h4
          subst this
          rcases h3 with h3 | ⟨q', h3, h7⟩
          · exact h2 h3
          · exact claimAt_none hc q' h3 h7
        · have := (r.rt id).lt b h; omega
  · intro b hb
    rcases hZT b hb with h3 | ⟨id2, _, h4⟩ | h3
    · exact .inl h3
    · exact .inr (r.sp id2 b h4).2
    · exact .inr (r.uf b (Nat.le_trans r.sz h3))
  · intro b hb hu
    exact fr b hb (fun id _ h => hu (r.sp id b h).2)
  · intro p hp hi
    have hp1 := r.p1 p hp
    rw [hh p.1] at hi
    show _ ∧ (match claimAt L p.1 with | some q => q.loc | none => g.loc p.1) = _
    cases hc : claimAt L p.1 with
    | some q =>
      obtain ⟨h1, h2⟩ := claimAt_some hc
      rw [hc] at hi
      simp only at hi
      rcases hq q h1 with ⟨_, h3⟩ | ⟨⟨h3, h4, h5, h6, h7⟩, _⟩
      · exact absurd h2.symm (h3 p hp)
      · rw [h2] at h3 h5
        exact ⟨by rw [← h3]; exact hi, h5⟩
    | none =>
      rw [hc] at hi
      simp only at hi
      refine ⟨?_, rfl⟩
      split at hi
      · simp at hi; omega
      · exact hi
end
end VM

/- New variables; values out of parts. -/
set_option linter.unusedVariables false
set_option linter.unusedSimpArgs false
namespace VM
open Go

theorem CVr.one {g : Gh} {w : World} {h : Nat → RE} {v : CV} {u : Value} (hne : v ≠ .undef) (hv : CVr g w h v u) : u.oneCell' = true := by
  cases v with
  | undef => exact absurd rfl hne
  | int k n => rw [show u = _ from hv]; rfl
  | bool b => rw [show u = _ from hv]; rfl
  | str s => rw [show u = _ from hv]; rfl
  | nil => rw [show u = _ from hv]; rfl
  | fn f => rw [show u = _ from hv]; rfl
  | sl e xs =>
    obtain ⟨v, hu, hh⟩ := hv
    simp only [List.cons.injEq, and_true] at hu
    subst hu
    rcases hh with ⟨h, _⟩ | ⟨_, _, A, cap, hv, _⟩
    · cases h
    · rw [hv]; rfl
  | rp c x => obtain ⟨b, off, us, h1, _⟩ := hv; rw [h1]; rfl
  | vptr id inc off => exact hv.1.2
  | map id inc => exact hv.1.2
  | row id inc ver p => exact hv.1.2.2
  | rsub id inc ver p lo hi => exact hv.1.2.2
  | ptr id inc ver p i off c => exact hv.1.1.2.2

theorem cells_of_one {u : Value} (h : u.oneCell' = true) : u.cells = #[u] := by cases u <;> first | rfl | cases h

theorem okCs_mem : ∀ {cs : List CV}, okCs cs = true → ∀ v ∈ cs, v ≠ .undef
  | [], _, v, hv => by simp at hv
  | c :: cs, h, v, hv => by
    cases c <;> simp only [okCs] at h <;> try cases h
    all_goals
      rcases List.mem_cons.1 hv with rfl | hv
      · intro e; cases e
      · exact okCs_mem (by simpa [okCs] using h) v hv

theorem All2.one {g : Gh} {w : World} {h : Nat → RE} : ∀ {cs : List CV} {us : List Value}, okCs cs = true → All2 (CVr g w h) cs us → ∀ u ∈ us, u.oneCell' = true
  | [], [], _, _, u, hu => by simp at hu
  | c :: cs, v :: us, hok, ⟨h1, h2⟩, u, hu => by
    rcases List.mem_cons.1 hu with rfl | hu
    · exact h1.one (okCs_mem hok c (by simp))
    · refine All2.one (cs := cs) ?_ h2 u hu
      cases c <;> simp [okCs] at hok <;> exact hok
  | [], _ :: _, _, h, _, _ => h.elim
  | _ :: _, [], _, h, _, _ => h.elim

theorem SVr.cells {g : Gh} {w : World} {h : Nat → RE} {v : SV} {u : Value} (hv : SVr g w h v u) (hok : okCs v.cells = true) : All2 (CVr g w h) v.cells u.cells.toList := by
  cases v with
  | one c =>
    have hne : c ≠ .undef := okCs_mem hok c (by simp [SV.cells])
    rw [cells_of_one (CVr.one hne hv)]
    exact ⟨hv, trivial⟩
  | agg vs =>
    obtain ⟨us, rfl, h2⟩ := hv
    exact h2
  | tup xs => simp [SV.cells, okCs] at hok

theorem okCs_append : ∀ (l m : List CV), okCs (l ++ m) = (okCs l && okCs m)
  | [], m => by simp [okCs]
  | c :: l, m => by cases c <;> simp [okCs, okCs_append l m]

theorem gath_ok {H : Nat → RE} {m : Tk} : ∀ {c : CK} {cs : List CV} {x : c.den} {ids : List Nat} {rest : List CV}, gath H m c cs = some (x, ids, rest) → ∃ pre, cs = pre ++ rest ∧ okCs pre = true ∧ pre.length = c.size
  | .int k, cs, x, ids, rest, h => by
    cases cs with
    | nil => simp [gath] at h
    | cons v r' =>
      cases v <;> simp only [gath] at h <;> try cases h
      split at h <;> try cases h
      exact ⟨[_], rfl, rfl, rfl⟩
  | .bool, cs, x, ids, rest, h => by
    cases cs with
    | nil => simp [gath] at h
    | cons v r' =>
      cases v <;> simp only [gath] at h <;> try cases h
      exact ⟨[_], rfl, rfl, rfl⟩
  | .str, cs, x, ids, rest, h => by
    cases cs with
    | nil => simp [gath] at h
    | cons v r' =>
      cases v <;> simp only [gath] at h <;> try cases h
      exact ⟨[_], rfl, rfl, rfl⟩
  | .unit, cs, x, ids, rest, h => by
    cases cs <;> (simp only [gath, Option.some.injEq, Prod.mk.injEq] at h; obtain ⟨_, _, rfl⟩ := h; exact ⟨[], rfl, rfl, rfl⟩)
  | .sl e, cs, x, ids, rest, h => by
    cases cs with
    | nil => simp [gath] at h
    | cons v r' =>
    have h' : (match slOf H m v e with | some (xs, ids) => some (xs, ids, r') | none => none) = some (x, ids, rest) := h
    clear h
    cases hs : slOf H m v e with
    | none => rw [hs] at h'; cases h'
    | some q =>
      rw [hs] at h'
      obtain ⟨xs, ids'⟩ := q
      simp only [Option.some.injEq, Prod.mk.injEq] at h'
      obtain ⟨rfl, rfl, rfl⟩ := h'
      refine ⟨[v], rfl, ?_, rfl⟩
      cases v <;> first | rfl | (simp [slOf] at hs)
  | .pair p q, cs, x, ids, rest, h => by
    have h' : (match gath H m p cs with
      | some (x, i1, r1) => match gath H m q r1 with
        | some (y, i2, r2) => some ((x, y), i1 ++ i2, r2)
        | none => none
      | none => none) = some (x, ids, rest) := by
        cases cs <;> exact h
    clear h
    split at h' <;> try cases h'
    rename_i y i1 r1 hp
    split at h' <;> try cases h'
    rename_i z i2 r2 hq
    obtain ⟨p1, rfl, k1, l1⟩ := gath_ok hp
    obtain ⟨p2, rfl, k2, l2⟩ := gath_ok hq
    exact ⟨p1 ++ p2, by simp, by rw [okCs_append, k1, k2]; rfl, by rw [List.length_append, l1, l2]; rfl⟩

theorem gathAll_some {H : Nat → RE} {m : Tk} {c : CK} {cs : List CV} {x : c.den} {ids : List Nat} (h : gathAll H m c cs = some (x, ids)) : gath H m c cs = some (x, ids, []) ∧ okCs cs = true ∧ cs.length = c.size := by
  unfold gathAll at h
  split at h
  · rename_i x' ids' hg
    simp only [Option.some.injEq, Prod.mk.injEq] at h
    obtain ⟨rfl, rfl⟩ := h
    obtain ⟨pre, h1, h2, h3⟩ := gath_ok hg
    rw [List.append_nil] at h1
    subst h1
    exact ⟨hg, h2, h3⟩
  · cases h

section
variable {P : Program} {F : Fx} {σ : St} {a : Act} {w : World} {g : Gh} {R : Type} {tt : List (Nat × TD)} {env : List Ct} {k : Nat} {o : Oper} {H : Nat → RE} {K : Upd → Option R} {y : R}

/-- The new names are no names of written parameters. -/
abbrev NwOk (F : Fx) (o : Oper) : Prop := ∀ p ∈ F.P0, ∀ j, j < 16 → p.1 ≠ nid o.dst j

theorem goal_newVar (r : Rl F σ a w g) (hH : HOk H σ.h o.dst) (hn : NwOk F o) {cs : List CV} {us : List Value} (t : TypeId) (hc : All2 (CVr g w σ.h) cs us)
    (hK : K ⟨.one (.vptr (nid o.dst 0) ((H (nid o.dst 0)).inc + 1) 0), [(nid o.dst 0, ⟨(H (nid o.dst 0)).inc + 1, 0, .var cs⟩)]⟩ = some y)
    (h : (execOp a.eval o).run P w = .ok (.value (.pointer (some ⟨w.heap.size, 0, none⟩))) (w.alloc (.cells us.toArray t))) : Goal P F σ a w g o K y := by
  have hm := hH.n 0 (by omega)
  obtain ⟨g', r', hz, hl, hf, _, x⟩ := Rl.make (c := .var cs) r hm (fun p hp => hn p hp 0 (by omega)) (T := []) (by simp) (v := .pointer (some ⟨w.heap.size, 0, none⟩)) (fp := [w.heap.size])
    (w' := w.alloc (.cells us.toArray t)) (Z' := g.Z) (fun b hb => hb) (fun b hb => .inl hb) rfl rfl rfl (by simp) (fun b hb _ => heap_alloc_old w _ hb) (by simp)
    (fun b hb => by
      simp only [List.mem_singleton] at hb
      subst hb
      exact ⟨fun hz => by have := r.zl _ hz; omega, .inl (Nat.le_refl _)⟩)
    (fun h' g' hz x => ⟨w.heap.size, us, t, rfl, rfl, heap_alloc_new w _, hc.mono fun _ _ => CVr.ext x⟩)
  refine ⟨_, hK, OpPost.value h ⟨g', r', ?_⟩⟩
  refine ⟨⟨?_, rfl⟩, fun _ cs' hc' => ⟨w.heap.size, hl, rfl⟩⟩
  show _ ≤ (setH σ.h [(nid o.dst 0, ⟨(H (nid o.dst 0)).inc + 1, 0, .var cs⟩)] (nid o.dst 0)).inc
  rw [setH_cons, if_pos rfl]
  exact Nat.le_refl _

theorem zero_vals (g : Gh) (w : World) (h : Nat → RE) : ∀ c : CK, All2 (CVr g w h) (expZ c) c.zero
  | .int k => ⟨rfl, trivial⟩
  | .bool => ⟨rfl, trivial⟩
  | .str => ⟨rfl, trivial⟩
  | .sl e => ⟨rfl, trivial⟩
  | .unit => trivial
  | .pair a b => (zero_vals g w h a).append (zero_vals g w h b)

theorem cells_zeroV : ∀ c : CK, (zeroV c).cells = c.zero.toArray
  | .int k => rfl
  | .bool => rfl
  | .str => rfl
  | .sl e => rfl
  | .unit => rfl
  | .pair a b => rfl

theorem act_alloc (htt : TTok P tt) (r : Rl F σ a w g) (hH : HOk H σ.h o.dst) (hn : NwOk F o) {t : TypeId} (ho : o.op = .alloc t) (h : act tt env k o (o.op.operands.toList.map σ.ev) H K = some y) : Goal P F σ a w g o K y := by
  unfold act at h
  rw [ho] at h
  simp only [Op.operands] at h
  split at h
  · split at h
    · rename_i c hc
      obtain ⟨b, fs, hl⟩ := kindT_some hc
      refine goal_newVar r hH hn t (zero_vals g w σ.h c) h ?_
      unfold execOp
      rw [ho]
      simp [Instr.alloc, (htt.is t c b fs hl).zeroV, newVar, newRow, cells_zeroV]
    · cases h
  · cases h

theorem act_box (htt : TTok P tt) (r : Rl F σ a w g) (hH : HOk H σ.h o.dst) (hn : NwOk F o) {t : TypeId} {x : Operand} (ho : o.op = .box t x) (h : act tt env k o (o.op.operands.toList.map σ.ev) H K = some y) : Goal P F σ a w g o K y := by
  unfold act at h
  rw [ho] at h
  simp only [Op.operands] at h
  split at h
  · rename_i v hv
    simp at hv
    subst hv
    split at h
    · rename_i c hc
      obtain ⟨hb, h⟩ := cond_some h
      rw [Bool.and_eq_true] at hb
      have hcs := (ev_sound r x).cells hb.1
      refine goal_newVar r hH hn t hcs h ?_
      unfold execOp
      rw [ho]
      simp [Instr.box, newVar, newRow]
    · cases h
  · cases h
end
end VM

/- Values out of parts. -/
set_option linter.unusedVariables false
set_option linter.unusedSimpArgs false
namespace VM
open Go

theorem foldl_sets (off : Nat) : ∀ (vs : List Value) (j : Nat) (cs : Array Value), off + j + vs.length ≤ cs.size →
    (vs.zipIdx j).foldl (fun cs x => cs.setIfInBounds (off + x.2) x.1) cs = (cs.toList.take (off + j) ++ (vs ++ cs.toList.drop (off + j + vs.length))).toArray
  | [], j, cs, h => by simp
  | v :: vs, j, cs, h => by
    simp only [List.length_cons] at h
    rw [List.zipIdx_cons, List.foldl_cons, foldl_sets off vs (j + 1) _ (by simp; omega)]
    congr 1
    simp only [Array.toList_setIfInBounds]
    apply List.ext_getElem?
    intro k
    have hl : cs.toList.length = cs.size := by simp
    simp only [List.getElem?_append, List.length_take, List.length_set, hl, List.length_cons, List.getElem?_take, List.getElem?_drop, List.getElem?_set]
    have e1 : min (off + (j + 1)) cs.size = off + j + 1 := by omega
    have e2 : min (off + j) cs.size = off + j := by omega
    rw [e1, e2]
    by_cases h1 : k < off + j
    · rw [if_pos (by omega), if_pos (by omega), if_pos h1, if_pos h1, if_neg (by omega)]
    · by_cases h2 : k = off + j
      · subst h2
        rw [if_pos (by omega), if_pos (by omega), if_pos rfl, if_pos (by omega), if_neg (by omega), if_pos (by omega)]
        simp
      · rw [if_neg (by omega), if_neg h1]
        by_cases h3 : k - (off + j) < vs.length + 1
        · rw [if_pos (by omega), if_pos h3]
          rw [show k - (off + j) = (k - (off + j + 1)) + 1 by omega, List.getElem?_cons_succ]
        · rw [if_neg (by omega), if_neg h3, if_neg (by omega)]
          congr 1
          omega

theorem fill_cons {place : Nat → Option (Nat × Nat)} {us : List Value} {i off size : Nat} {v : Value} {rest : List (Nat × Value)} (hp : place i = some (off, size)) (hs : v.cells.size = size) (hb : off + size ≤ us.length) :
    Instr.fill place us.toArray ((i, v) :: rest) = Instr.fill place (us.take off ++ (v.cells.toList ++ us.drop (off + size))).toArray rest := by
  simp only [Instr.fill, hp]
  rw [if_neg (by simp; omega)]
  congr 1
  rw [← Array.foldl_toList, Array.toList_zipIdx]
  have := foldl_sets off v.cells.toList 0 us.toArray (by simp; omega)
  simp only [Nat.add_zero, Array.length_toList, hs] at this
  exact this

theorem All2.patch {g : Gh} {w : World} {h : Nat → RE} {cs vs : List CV} {us ws : List Value} (off n : Nat) (h1 : All2 (CVr g w h) cs us) (h2 : All2 (CVr g w h) vs ws) (hn : vs.length = n) :
    All2 (CVr g w h) (patch cs off vs) (us.take off ++ (ws ++ us.drop (off + n))) := by
  unfold VM.patch
  rw [hn]
  exact (h1.take off).append (h2.append (h1.drop _))

theorem buildC_sound {g : Gh} {w : World} {h : Nat → RE} {fs : List (Nat × CK)} {place : Nat → Option (Nat × Nat)} {n : Nat} (hp : ∀ (i off : Nat) (d : CK), fs[i]? = some (off, d) → place i = some (off, d.size) ∧ off + d.size ≤ n) :
    ∀ {ps : List (Nat × SV)} {qs : List (Nat × Value)} {cs cs' : List CV} {us : List Value}, All2 (fun p q => p.1 = q.1 ∧ SVr g w h p.2 q.2) ps qs → All2 (CVr g w h) cs us → us.length = n → buildC fs ps cs = some cs' →
      ∃ us', Instr.fill place us.toArray qs = some us'.toArray ∧ All2 (CVr g w h) cs' us'
  | [], [], cs, cs', us, _, hc, hn, hb => by
    simp only [buildC, Option.some.injEq] at hb
    subst hb
    exact ⟨us, rfl, hc⟩
  | (i, v) :: ps, (j, u) :: qs, cs, cs', us, ⟨⟨hij, hv⟩, ht⟩, hc, hn, hb => by
    simp only at hij
    subst hij
    simp only [buildC] at hb
    split at hb
    · rename_i off d hf
      obtain ⟨hb1, hb⟩ := cond_some hb
      rw [Bool.and_eq_true] at hb1
      obtain ⟨hok, hl⟩ := hb1
      have hl := Nat.eq_of_beq_eq_true hl
      obtain ⟨p1, p2⟩ := hp i off d hf
      have hcs := hv.cells hok
      have hlu : u.cells.size = d.size := by rw [← hl, hcs.length]; simp
      have hlc := hc.length
      rw [fill_cons p1 hlu (by omega)]
      refine buildC_sound hp ht (hc.patch off d.size hcs hl) ?_ hb
      simp only [List.length_append, List.length_take, List.length_drop, Array.length_toList, hlu]
      omega
    · cases hb
  | [], _ :: _, _, _, _, h, _, _, _ => h.elim
  | _ :: _, [], _, _, _, h, _, _, _ => h.elim

section
variable {P : Program} {F : Fx} {σ : St} {a : Act} {w : World} {g : Gh} {R : Type} {tt : List (Nat × TD)} {env : List Ct} {k : Nat} {o : Oper} {H : Nat → RE} {K : Upd → Option R} {y : R}

theorem parts_sound (r : Rl F σ a w g) : ∀ ps : List (Nat × Operand), All2 (fun p q => p.1 = q.1 ∧ SVr g w σ.h p.2 q.2) ((ps.map (·.1)).zip ((ps.map (·.2)).map σ.ev)) (ps.map fun x => (x.1, a.eval x.2))
  | [] => trivial
  | (i, x) :: ps => ⟨⟨rfl, ev_sound r x⟩, parts_sound r ps⟩

theorem mapM_some {α β : Type} {f : α → Option β} {l : List α} {m : List β} (hl : l.length = m.length) (h : ∀ (i : Nat) (x : α), l[i]? = some x → ∃ y, m[i]? = some y ∧ f x = some y) : l.mapM f = some m := by
  induction l generalizing m with
  | nil =>
    cases m with
    | nil => rfl
    | cons => simp at hl
  | cons x l ih =>
    cases m with
    | nil => simp at hl
    | cons y m =>
      obtain ⟨y', h1, h2⟩ := h 0 x rfl
      simp at h1
      subst h1
      rw [List.mapM_cons, h2, ih (by simpa using hl) (fun i x hx => by simpa using h (i + 1) x (by simpa using hx))]
      rfl

theorem act_build (htt : TTok P tt) (r : Rl F σ a w g) {t : TypeId} {ps : Array (Nat × Operand)} (ho : o.op = .build t ps) (h : act tt env k o (o.op.operands.toList.map σ.ev) H K = some y) : Goal P F σ a w g o K y := by
  unfold act at h
  rw [ho] at h
  simp only [Op.operands] at h
  split at h
  · rename_i c bs fs hl
    obtain ⟨hagg, h⟩ := cond_some h
    split at h
    · rename_i cs hb
      obtain ⟨i, d, h1, h2, h3, h4, h5⟩ := (htt.is t c bs fs hl).ex
      obtain ⟨Fs, hu, hsz, hfs⟩ := htt.agg t c bs fs hl hagg
      let places : List (Nat × Nat) := fs.map fun x => (x.1, x.2.size)
      have hm : Fs.toList.mapM (fun f => (P.info? f.type).map fun i => (f.offset, i.size)) = some places := by
        refine mapM_some (by simp [places, hsz]) fun j x hx => ?_
        have hx' : Fs[j]? = some x := by simpa using hx
        obtain ⟨off, d, k1, k2, k3, k4⟩ := hfs j x hx'
        obtain ⟨i', d', m1, m2, m3, _⟩ := k3.ex
        exact ⟨(off, d.size), by simp [places, k1], by rw [m1]; simp [k2, m3]⟩
      have hps := parts_sound r ps.toList
      have hl0 : c.zero.length = c.size := (Has.zero (fun _ => False) w false c).len
      obtain ⟨us, hf, hus⟩ := buildC_sound (place := (places.toArray[·]?)) (n := c.size) (fun j off d hj => by
          refine ⟨by simp [places, hj], ?_⟩
          have hlt : j < Fs.size := by rw [hsz]; exact (List.getElem?_eq_some_iff.1 hj).1
          obtain ⟨off', d', k1, k2, k3, k4⟩ := hfs j Fs[j] (by simp [hlt])
          rw [hj] at k1
          cases k1
          exact k4) hps (zero_vals g w σ.h c) hl0 hb
      refine goal_pure r h (x := .agg us.toArray) ?_ ⟨us, rfl, hus⟩
      unfold execOp
      rw [ho]
      have hbu : P.built t (ps.map fun (i, x) => (i, a.eval x)).toList = some us.toArray := by
        unfold Program.built
        rw [h1, hu]
        simp only [h4, hm, cells_zeroV]
        rw [Array.toList_map]
        exact hf
      simp only [Sem.run_bind, run_build w t _ _ hbu, Result.andThen_ok, Sem.run_pure]
    · cases h
  · cases h
end
end VM

/- New rows. -/
set_option linter.unusedVariables false
set_option linter.unusedSimpArgs false
namespace VM
open Go

theorem made_list {e : CK} (hz : e.zero.length = e.size) (n : Nat) : (madeCells e.zero.toArray (n * e.size)).toList = (List.replicate n e.zero).flatten := by
  unfold madeCells
  rw [Array.toList_map, Array.toList_range]
  have hz' : e.zero.toArray.size = e.size := by simp [hz]
  rw [hz']
  induction n with
  | zero => simp
  | succ n ih =>
    rw [show (n + 1) * e.size = e.size + n * e.size by rw [Nat.add_mul]; omega, List.range_add, List.map_append, List.replicate_succ, List.flatten_cons, ← ih, List.map_map]
    congr 1
    · apply List.ext_getElem?
      intro k
      by_cases hk : k < e.size
      · rw [List.getElem?_map, List.getElem?_range hk]
        have : k < e.zero.length := by omega
        simp [Nat.mod_eq_of_lt hk, this]
      · rw [List.getElem?_eq_none (by simp; omega), List.getElem?_eq_none (by omega)]
    · apply List.map_congr_left
      intro k _
      simp

theorem Cat.replicate {α : Type} {P : α → List Value → List Nat → Prop} {x : α} {us : List Value} (h : P x us []) : ∀ n, Cat P (List.replicate n x) (List.replicate n us).flatten []
  | 0 => ⟨rfl, rfl⟩
  | n + 1 => ⟨us, _, [], [], rfl, rfl, h, Cat.replicate h n⟩

theorem CellsAt.new (w : World) (us : List Value) (t : TypeId) : CellsAt (w.alloc (.cells us.toArray t)) w.heap.size 0 us := fun j u hu => by
  rw [Nat.zero_add, World.cell?_alloc_new]
  simpa using hu
theorem OwnB.new (w : World) (us : List Value) (t : TypeId) {n : Nat} (h : n ≤ us.length) : OwnB (w.alloc (.cells us.toArray t)) w.heap.size n := ⟨us.toArray, t, heap_alloc_new w _, by simpa using h⟩

/-- The zero value again, cell by cell. -/
theorem TypeIs.zero_cells {P : Program} {t : TypeId} {c : CK} (h : TypeIs P t c) : ∃ i, P.info? t = some i ∧ i.size = c.size ∧ ∃ z, i.zero = some z ∧ z.cells = c.zero.toArray := by
  obtain ⟨i, d, h1, h2, h3, h4, h5⟩ := h.ex
  exact ⟨i, h1, h3, _, h4, cells_zeroV c⟩

section
variable {P : Program} {F : Fx} {σ : St} {a : Act} {w : World} {g : Gh} {R : Type} {tt : List (Nat × TD)} {env : List Ct} {k : Nat} {o : Oper} {H : Nat → RE} {K : Upd → Option R} {y : R}

theorem ebytes_some {t : TypeId} {b : Nat} {e : CK} (h : ebytes tt t = some b) (he : elemT tt t = some e) : ∃ fs, look tt t = some (.val (.sl e) b fs) := by
  obtain ⟨b', fs, hl⟩ := elemT_some he
  unfold ebytes at h
  rw [hl] at h
  simp only [Option.some.injEq] at h
  subst h
  exact ⟨fs, hl⟩

/-- What an element type says. -/
theorem elem_facts (htt : TTok P tt) {t : TypeId} {b : Nat} {e : CK} {fs : List (Nat × CK)} (h : look tt t = some (.val (.sl e) b fs)) :
    ∃ et i z, P.underlying t = some (.slice et) ∧ 0 < e.size ∧ P.info? et = some i ∧ i.bytes = b ∧ i.size = e.size ∧ i.zero = some z ∧ z.cells = e.zero.toArray ∧ e.zero.length = e.size := by
  obtain ⟨et, h1, h2, h3, i, h4, h5⟩ := htt.sl t e b fs h
  obtain ⟨i', m1, m2, z, m3, m4⟩ := h2.zero_cells
  rw [h4] at m1
  cases m1
  exact ⟨et, i, z, h1, h3, h4, h5, m2, m3, m4, (Has.zero (fun _ => False) default false e).len⟩

/-- A new row, owned; its elements' cells 'us'; the roots 'T' go into it. -/
theorem goal_newRow (r : Rl F σ a w g) (hH : HOk H σ.h o.dst) (hn : NwOk F o) {T : List Nat} (hT : ∀ id ∈ T, H id = σ.h id) {d : Bool} {e : CK} {xs : List e.den} {v : Value} {fp : List Nat} {w' : World} {Z' : Nat → Prop}
    (hZZ : ∀ b, g.Z b → Z' b) (hZT : ∀ b, Z' b → g.Z b ∨ ∃ id ∈ T, b ∈ g.fp id)
    (os : w'.os = w.os) (tp : w'.tape = w.tape) (ou : w'.output = w.output) (sz : w.heap.size ≤ w'.heap.size)
    (fr : ∀ b, b < w.heap.size → (∀ id ∈ T, b ∉ g.fp id) → w'.heap[b]? = w.heap[b]?)
    (hfp : fp.Nodup) (hnew : ∀ b ∈ fp, ¬ Z' b ∧ (w.heap.size ≤ b ∨ ∃ id ∈ T, b ∈ g.fp id))
    (hrow : Row Z' w' d e xs v fp)
    (hK : K ⟨.one (.row (nid o.dst 0) ((H (nid o.dst 0)).inc + 1) 0 []), (nid o.dst 0, ⟨(H (nid o.dst 0)).inc + 1, 0, .row d e xs⟩) :: dead H T⟩ = some y)
    (h : (execOp a.eval o).run P w = .ok (.value v) w') : Goal P F σ a w g o K y := by
  have hm := hH.n 0 (by omega)
  obtain ⟨g', r', hz, hl, hf, _, x⟩ := Rl.make (c := .row d e xs) r hm (fun p hp => hn p hp 0 (by omega)) (T := T) hT (v := v) (fp := fp) (w' := w') (Z' := Z') hZZ hZT os tp ou sz fr hfp hnew
    (fun h' g' hz x => by
      show Row g'.Z w' d e xs v fp
      rw [hz]
      exact hrow)
  refine ⟨_, hK, OpPost.value h ⟨g', r', ?_⟩⟩
  have hv : v.oneCell' = true := by
    obtain ⟨A, cap, hv, _⟩ := hrow
    rw [hv]
    rfl
  have hh : setH σ.h ((nid o.dst 0, ⟨(H (nid o.dst 0)).inc + 1, 0, .row d e xs⟩) :: dead H T) (nid o.dst 0) = ⟨(H (nid o.dst 0)).inc + 1, 0, .row d e xs⟩ := by rw [setH_cons, if_pos rfl]
  refine ⟨⟨?_, ?_, hv⟩, fun d' e' hc _ => ?_⟩
  · rw [hh]; exact Nat.le_refl _
  · intro _; exact Nat.zero_le _
  · show v = g'.loc (nid o.dst 0)
    rw [hl]

theorem act_makeSlice (htt : TTok P tt) (r : Rl F σ a w g) (hH : HOk H σ.h o.dst) (hn : NwOk F o) {t : TypeId} {x z : Operand} (ho : o.op = .makeSlice t x z) (h : act tt env k o (o.op.operands.toList.map σ.ev) H K = some y) : Goal P F σ a w g o K y := by
  unfold act at h
  rw [ho] at h
  simp only [Op.operands] at h
  split at h
  · rename_i n n' hv
    simp at hv
    have hx : a.eval x = .int .i64 n := by have := ev_sound r x; rw [hv.1] at this; exact this
    have hz : a.eval z = .int .i64 n' := by have := ev_sound r z; rw [hv.2] at this; exact this
    split at h
    · rename_i e b he hb
      obtain ⟨fs, hl⟩ := ebytes_some hb he
      obtain ⟨et, i, zz, h1, h2, h3, h4, h5, h6, h7, h8⟩ := elem_facts htt hl
      obtain ⟨hc, hk⟩ := grd_some h
      clear h
      simp only [Bool.and_eq_true, decide_eq_true_eq, fits, Nat.blt_eq] at hc
      obtain ⟨⟨rfl, h0⟩, hbb, hb0⟩ := hc
      obtain ⟨m, rfl⟩ := Int.eq_ofNat_of_zero_le h0
      simp only [Int.toNat_natCast] at hbb hk
      have hmb : m ≤ m * b := Nat.le_mul_of_pos_right m hb0
      have run := run_make (P := P) w t et i zz h1 h3 h6 .i64 .i64 (m : Int) (m : Int) (by omega) (Int.le_refl _) (by
        rw [h4]
        have : ((m * b : Nat) : Int) ≤ 140737488355328 := by omega
        rw [Int.natCast_mul] at this
        rw [Int.mul_comm]
        omega) (by omega)
      simp only [Int.toNat_natCast, h5, h7] at run
      have hlist := made_list h8 m
      have harr : madeCells e.zero.toArray (m * e.size) = (List.replicate m e.zero).flatten.toArray := by rw [← hlist]
      rw [harr] at run
      refine goal_newRow (Z' := g.Z) (T := []) (d := true) (e := e) (xs := List.replicate m e.dflt) (fp := [w.heap.size]) (w' := w.alloc (.cells (List.replicate m e.zero).flatten.toArray et)) r hH hn (by simp) (fun _ h => h) (fun _ h => .inl h) rfl rfl rfl (by simp) (fun b hb _ => heap_alloc_old w _ hb) (by simp)
        (fun b hb => by
          simp only [List.mem_singleton] at hb
          subst hb
          exact ⟨fun hz => by have := r.zl _ hz; omega, .inl (Nat.le_refl _)⟩)
        (v := .slice (some ⟨w.heap.size, 0, none⟩) m m) ?_ hk ?_
      · refine ⟨_, m, by rw [List.length_replicate], by simp, .inr ⟨w.heap.size, 0, _, [], rfl, CellsAt.new w _ _, Cat.replicate (Has.zero _ _ _ e) m, rfl, OwnB.new w _ _ ?_⟩⟩
        rw [Nat.zero_add, List.length_flatten]
        simp [h8]
      · unfold execOp
        rw [ho]
        simp only [hx, hz, Sem.run_bind, run, Result.andThen_ok, Sem.run_pure]
    · cases h
  · cases h
end
end VM

/- append. -/
set_option linter.unusedVariables false
set_option linter.unusedSimpArgs false
namespace VM
open Go

theorem Addr.add_none (b o j : Nat) : (⟨b, o, none⟩ : Addr).add j = ⟨b, o + j, none⟩ := by unfold Addr.add; split <;> simp_all

theorem heap_setRow_other (w : World) (g : Nat) (cs : Array Value) {k : Nat} (h : k ≠ g) : (w.setRow g cs).heap[k]? = w.heap[k]? := by
  unfold World.setRow
  simp only [Array.getElem?_modify]
  rw [if_neg (fun e => h e.symm)]

theorem run_append_gen {P : Program} {w : World} {t t' ty e e' : TypeId} {i : TypeInfo} {z : Value} {size : Nat} (ht : P.underlying t = some (.slice e)) (ht' : P.underlying t' = some (.slice e')) (hi : P.info? e = some i) (hz : i.zero = some z)
    (hs : i.size = size) (hzs : z.cells.size = size) (hsz : 0 < size)
    {A : Option Addr} {n cap : Nat} {olds : List Value} (hlo : olds.length = n * size) (hnc : n ≤ cap)
    (hA : (A = none ∧ n = 0 ∧ cap = 0) ∨ ∃ b off, A = some ⟨b, off, none⟩ ∧ CellsAt w b off olds ∧ OwnB w b (off + cap * size))
    {A' : Option Addr} {m cap' : Nat} {news : List Value} (hln : news.length = m * size) (hA' : m = 0 ∨ ∃ b off, A' = some ⟨b, off, none⟩ ∧ CellsAt w b off news) (h1 : ∀ u ∈ news, u.oneCell' = true)
    (hfit : (n + m) * i.bytes ≤ 140737488355328) (hb : 0 < i.bytes) :
    ∃ v' w', (Builtin.append_ #[t, t'] ty #[.slice A n cap, .slice A' m cap']).run P w = .ok v' w' ∧ w'.os = w.os ∧ w'.tape = w.tape ∧ w'.output = w.output ∧ w.heap.size ≤ w'.heap.size ∧
      ((A = none ∧ m = 0 ∧ n = 0 ∧ v' = .slice none 0 0 ∧ w' = w) ∨
       ∃ b off cap', v' = .slice (some ⟨b, off, none⟩) (n + m) cap' ∧ n + m ≤ cap' ∧ CellsAt w' b off (olds ++ news) ∧ OwnB w' b (off + cap' * size) ∧ (A = some ⟨b, off, none⟩ ∨ b = w.heap.size) ∧
         ∀ k, k < w.heap.size → (∀ off, A = some ⟨k, off, none⟩ → False) → w'.heap[k]? = w.heap[k]?) := by
  subst hs
  have hnm : n + m ≤ (n + m) * i.bytes := Nat.le_mul_of_pos_right _ hb
  have hf : ∀ w2 : World, (∀ a u, w.cell? a = some u → w2.cell? a = some u) → (Builtin.firstCells i.size m (.slice A' m cap')).run P w2 = .ok news.toArray w2 := by
    intro w2 h2
    rcases hA' with h0 | ⟨b, off, rfl, hc⟩
    · subst h0
      have : news = [] := by simpa using hln
      subst this
      cases A' with
      | none => simp [Builtin.firstCells]
      | some a => simp [Builtin.firstCells, loadCells, loadCellsFrom]
    · exact run_firstCells_some (P := P) w2 i.size m _ m cap' news hln (fun j u hu => by rw [Addr.add_none]; exact h2 _ _ (hc j u hu))
  by_cases hroom : n + m ≤ cap
  · have hf0 := hf w (fun _ _ h => h)
    rcases hA with ⟨rfl, rfl, rfl⟩ | ⟨b, off, rfl, hc, arr, bty, hown, hle⟩
    · obtain rfl : m = 0 := by omega
      exact ⟨.slice none 0 0, w, by simp [Builtin.append_, run_underlying ht, run_underlying ht', Go.sizeOf, typeInfo, hi, Builtin.lenOf, hf0], rfl, rfl, rfl, Nat.le_refl _, .inl ⟨rfl, rfl, rfl, rfl, rfl⟩⟩
    · have hcm : (n + m) * i.size ≤ cap * i.size := Nat.mul_le_mul_right _ hroom
      rw [Nat.add_mul] at hcm
      have hst := run_storeCells_at (P := P) b (off + n * i.size) bty news 0 arr w hown (by omega) h1
      simp only [Nat.add_zero] at hst
      refine ⟨.slice (some ⟨b, off, none⟩) (n + m) cap, w.setRow b (arr.toList.take (off + n * i.size) ++ news ++ arr.toList.drop (off + n * i.size + news.length)).toArray, ?_, rfl, rfl, rfl, ?_, .inr ⟨b, off, cap, rfl, hroom, ?_, ?_, .inl rfl, ?_⟩⟩
      · simp [Builtin.append_, run_underlying ht, run_underlying ht', Go.sizeOf, typeInfo, hi, Builtin.lenOf, hf0, hroom, Addr.add_none]
        simp only [List.append_assoc] at hst
        rw [hst]
        simp
      · simp
      · have hblk := setRow_heap w b arr (arr.toList.take (off + n * i.size) ++ news ++ arr.toList.drop (off + n * i.size + news.length)).toArray bty _ hown
        intro j u hu
        rw [cell_of_row _ b (off + j) _ bty _ hblk]
        have holds : ∀ j u, olds[j]? = some u → arr[off + j]? = some u := fun j u hu => by
          have := hc j u hu
          rwa [cell_of_row w b (off + j) arr bty _ hown] at this
        simp only [List.getElem?_toArray]
        have harr : arr.toList.length = arr.size := by simp
        by_cases hj : j < olds.length
        · rw [List.getElem?_append_left hj] at hu
          rw [List.append_assoc, List.getElem?_append_left (by rw [List.length_take]; omega), List.getElem?_take, if_pos (by omega)]
          simpa using holds j u hu
        · rw [List.getElem?_append_right (by omega)] at hu
          have hj2 : j - olds.length < news.length := (List.getElem?_eq_some_iff.1 hu).1
          rw [List.append_assoc, List.getElem?_append_right (by rw [List.length_take]; omega), List.length_take, List.getElem?_append_left (by omega)]
          rw [← hu]
          congr 1
          omega
      · have hblk := setRow_heap w b arr (arr.toList.take (off + n * i.size) ++ news ++ arr.toList.drop (off + n * i.size + news.length)).toArray bty _ hown
        refine ⟨_, bty, hblk, ?_⟩
        simp only [List.size_toArray, List.length_append, List.length_take, List.length_drop, Array.length_toList]
        omega
      · intro k hk hne
        exact heap_setRow_other w b _ (fun e => hne off (by rw [e]))
  · have hm : 0 < m := by omega
    have h63' : ¬ (9223372036854775807 < ((n : Int) + (m : Int))) := by omega
    have hnext := nextslicecap_le (need := n + m) (old := cap) (by omega)
    have hnext2 : Builtin.nextslicecap (n + m) cap * i.bytes ≤ 2 * (n + m) * i.bytes := Nat.mul_le_mul_right _ hnext
    rw [Nat.mul_assoc] at hnext2
    have h48' : ¬ (281474976710656 < Builtin.nextslicecap (n + m) cap * i.bytes) := by omega
    have hf0 := hf w.drew (fun a u h => by simpa using h)
    have hfo : (Builtin.firstCells i.size n (.slice A n cap)).run P w.drew = .ok olds.toArray w.drew := by
      rcases hA with ⟨rfl, rfl, rfl⟩ | ⟨b, off, rfl, hc, hown⟩
      · have : olds = [] := by simpa using hlo
        subst this
        simp [Builtin.firstCells]
      · exact run_firstCells_some (P := P) w.drew i.size n _ n cap olds hlo (fun j u hu => by rw [Addr.add_none]; simpa using hc j u hu)
    have hge := grownCap_ge w (n + m) cap e
    have hsizes : (olds ++ (news ++ (Builtin.zeroCells z.cells (grownCap w (n + m) cap e - (n + m))).toList)).length = grownCap w (n + m) cap e * i.size := by
      simp only [List.length_append, Array.length_toList, size_zeroCells, hzs, hlo, hln, ← Nat.add_mul]
      congr 1
      omega
    refine ⟨.slice (some ⟨w.heap.size, 0, none⟩) (n + m) (grownCap w (n + m) cap e),
      w.drew.alloc (.cells (olds ++ (news ++ (Builtin.zeroCells z.cells (grownCap w (n + m) cap e - (n + m))).toList)).toArray e), ?_, rfl, rfl, rfl, by simp,
      .inr ⟨w.heap.size, 0, _, rfl, hge, ?_, ?_, .inr rfl, ?_⟩⟩
    · have hn0 : ¬ (n + m ≤ cap) := hroom
      simp [Builtin.append_, run_underlying ht, run_underlying ht', Go.sizeOf, typeInfo, zeroValue, hi, hz, Builtin.lenOf, hn0, h63', h48', Question.forced, hf0, hfo, newRow, grownCap]
      congr 2
      apply Array.ext'
      simp [List.append_assoc]
    · have := CellsAt.new w.drew (olds ++ (news ++ (Builtin.zeroCells z.cells (grownCap w (n + m) cap e - (n + m))).toList)) e
      rw [World.size_drew, ← List.append_assoc] at this
      have := (CellsAt.append.1 this).1
      rwa [← List.append_assoc]
    · have := OwnB.new w.drew (olds ++ (news ++ (Builtin.zeroCells z.cells (grownCap w (n + m) cap e - (n + m))).toList)) e (Nat.le_refl _)
      rw [World.size_drew, hsizes] at this
      rwa [Nat.zero_add]
    · intro k hk _
      exact heap_alloc_old w.drew _ hk
end VM

/- append, of what is owned and of what is shared. -/
set_option linter.unusedVariables false
set_option linter.unusedSimpArgs false
namespace VM
open Go

theorem Has.one {Z : Nat → Prop} {w : World} {d : Bool} : ∀ {c : CK} {x : c.den} {us : List Value} {fp : List Nat}, Has Z w d c x us fp → ∀ u ∈ us, u.oneCell' = true
  | .int _, _, _, _, h, u, hu => by rw [h.1] at hu; simp at hu; subst hu; rfl
  | .bool, _, _, _, h, u, hu => by rw [h.1] at hu; simp at hu; subst hu; rfl
  | .str, _, _, _, h, u, hu => by rw [h.1] at hu; simp at hu; subst hu; rfl
  | .unit, _, _, _, h, u, hu => by rw [h.1] at hu; simp at hu
  | .pair a b, x, us, fp, ⟨u1, u2, f1, f2, h1, h2, h3, h4⟩, u, hu => by
    rw [h1, List.mem_append] at hu
    exact hu.elim (Has.one h3 u) (Has.one h4 u)
  | .sl e, xs, us, fp, ⟨v, hus, h⟩, u, hu => by
    rw [hus] at hu
    simp at hu
    subst hu
    rcases h with ⟨_, A, cap, hv, _⟩ | ⟨_, _, A, cap, hv, _⟩ <;> (rw [hv]; rfl)

theorem Cat.one_cells {α : Type} {P : α → List Value → List Nat → Prop} (hP : ∀ x u f, P x u f → ∀ v ∈ u, v.oneCell' = true) : ∀ {xs : List α} {us fp}, Cat P xs us fp → ∀ u ∈ us, u.oneCell' = true
  | [], _, _, ⟨h, _⟩ => by simp [h]
  | x :: xs, _, _, ⟨u1, u2, f1, f2, h, _, h1, h2⟩ => by
    intro u hu
    rw [h, List.mem_append] at hu
    exact hu.elim (hP _ _ _ h1 u) (Cat.one_cells hP h2 u)

section
variable {P : Program} {F : Fx} {σ : St} {a : Act} {w : World} {g : Gh} {R : Type} {tt : List (Nat × TD)} {env : List Ct} {k : Nat} {o : Oper} {H : Nat → RE} {K : Upd → Option R} {y : R}

/-- The source of an append: it reads, and its blocks are those of the roots 'I'. -/
structure Src (g : Gh) (w : World) (H h : Nat → RE) (d : Bool) (e : CK) (xs : List e.den) (u : Value) (I : List Nat) (A : Option Addr) (cap : Nat) (vs : List Value) (fs : List Nat) : Prop where
  v : u = .slice A xs.length cap
  le : xs.length ≤ cap
  cat : Cat (Has g.Z w d e) xs vs fs
  at_ : xs = [] ∨ ∃ b off, A = some ⟨b, off, none⟩ ∧ CellsAt w b off vs
  same : ∀ id ∈ I, H id = h id
  fp : ∀ b ∈ fs, ∃ id ∈ I, b ∈ g.fp id
  nd : fs.Nodup

/-- What a root owns, as a source. -/
theorem own_src {d : Bool} {e : CK} {xs : List e.den} {u : Value} {id : Nat} (hs : H id = σ.h id) (hnd : (g.fp id).Nodup) (hr : Row g.Z w d e xs u (g.fp id)) :
    ∃ A cap vs fs, Src g w H σ.h d e xs u [id] A cap vs fs ∧ ((A = none ∧ xs = [] ∧ cap = 0 ∧ g.fp id = []) ∨ ∃ b off, A = some ⟨b, off, none⟩ ∧ CellsAt w b off vs ∧ OwnB w b (off + cap * e.size) ∧ g.fp id = b :: fs) := by
  obtain ⟨A, cap, hv, hc, hm⟩ := hr
  rcases hm with ⟨h1, h2, h3, h4⟩ | ⟨b, off, vs, fs, hA, h1, h2, h3, h4⟩
  · refine ⟨A, cap, [], [], ⟨hv, hc, by rw [h1]; exact ⟨rfl, rfl⟩, .inl h1, by simpa using hs, by simp, by simp⟩, .inl ⟨h3, h1, h4, h2⟩⟩
  · rw [h3] at hnd
    exact ⟨A, cap, vs, fs, ⟨hv, hc, h2, .inr ⟨b, off, hA, h1⟩, by simpa using hs, fun b' hb => ⟨id, by simp, by rw [h3]; simp [hb]⟩, (List.nodup_cons.1 hnd).2⟩, .inr ⟨b, off, hA, h1, h4, h3⟩⟩

theorem row_src (r : Rl F σ a w g) (hH : HOk H σ.h o.dst) {id inc ver : Nat} {R : Row1} (h : rowAt H id inc ver [] = some R) {u : Value} (hu : CVr g w σ.h (.row id inc ver []) u) :
    ∃ A cap vs fs, Src g w H σ.h R.d R.e R.xs u [id] A cap vs fs ∧ ((A = none ∧ R.xs = [] ∧ cap = 0 ∧ g.fp id = []) ∨ ∃ b off, A = some ⟨b, off, none⟩ ∧ CellsAt w b off vs ∧ OwnB w b (off + cap * R.e.size) ∧ g.fp id = b :: fs) := by
  obtain ⟨k1, k2, k3, _⟩ := rowAt_sound r hH h
  obtain ⟨f1, fm, f2, m1, m2, m3⟩ := r.row hH h (u := u) (fun dd ee xx hc => hu.2 dd ee (by rw [hc]; rfl) ⟨k2.symm, .inl rfl⟩)
  obtain ⟨rfl, rfl⟩ := m3 rfl
  simp only [List.nil_append, List.append_nil] at m1
  rw [← m1] at m2
  exact own_src k1 (r.nd id) m2

theorem sl_src {e : CK} {xs : List e.den} {u : Value} (h : Has g.Z w false (.sl e) xs [u] []) : ∃ A cap vs, Src g w H σ.h false e xs u [] A cap vs [] := by
  obtain ⟨v, hu, hh⟩ := h
  simp only [List.cons.injEq, and_true] at hu
  subst hu
  rcases hh with ⟨h, _⟩ | ⟨_, _, A, cap, hv, hc, hh⟩
  · cases h
  · rcases hh with h1 | ⟨b, off, vs, fs, hA, h1, h2, h3⟩
    · exact ⟨A, cap, [], hv, hc, by rw [h1]; exact ⟨rfl, rfl⟩, .inl h1, by simp, by simp, by simp⟩
    · have hfs : fs = [] := by
        have := Cat.fp_mem (B := fun _ => False) (fun x u f h b hb => by rw [Has.fp_false h] at hb; simp at hb) h2
        cases fs with
        | nil => rfl
        | cons a l => exact (this a (by simp)).elim
      subst hfs
      exact ⟨A, cap, vs, hv, hc, h2, .inr ⟨b, off, hA, h1⟩, by simp, by simp, by simp⟩

theorem Cat.share {Z Z' : Nat → Prop} {w : World} {d : Bool} {e : CK} (hZ : ∀ b, Z b → Z' b) : ∀ {xs : List e.den} {vs : List Value} {fs : List Nat}, Cat (Has Z w d e) xs vs fs → (∀ b ∈ fs, Z' b) → Cat (Has Z' w false e) xs vs []
  | [], _, _, ⟨h, _⟩, _ => ⟨h, rfl⟩
  | y :: ys, _, _, ⟨u1, u2, f1, f2, h, hf, k1, k2⟩, hb => by
    subst hf
    exact ⟨u1, u2, [], [], h, rfl, Has.share hZ k1 (fun b h => hb b (by simp [h])), Cat.share hZ k2 (fun b h => hb b (by simp [h]))⟩

theorem goal_append (htt : TTok P tt) (r : Rl F σ a w g) (hH : HOk H σ.h o.dst) (hn : NwOk F o) {x z : Operand} {t t' : TypeId} (ho : o.op = .call { callee := .builtin .append, args := #[x, z], argTypes := #[t, t'] })
    {e e' : CK} {bb : Nat} (he : elemT tt t = some e) (hbb : ebytes tt t = some bb) (he' : elemT tt t' = some e') {xs ys : List e.den} (hfits : fits (xs.length + ys.length) bb = true)
    {T : List Nat} (hT : ∀ id ∈ T, H id = σ.h id) {d : Bool} {Z' : Nat → Prop} {A A' : Option Addr} {cap cap' : Nat} {vs ws : List Value} {fs : List Nat}
    (hx : a.eval x = .slice A xs.length cap) (hle : xs.length ≤ cap) (hy : a.eval z = .slice A' ys.length cap')
    (hA : (A = none ∧ xs = [] ∧ cap = 0) ∨ ∃ b off, A = some ⟨b, off, none⟩ ∧ CellsAt w b off vs ∧ OwnB w b (off + cap * e.size) ∧ ∃ id ∈ T, b ∈ g.fp id)
    (hA' : ys = [] ∨ ∃ b off, A' = some ⟨b, off, none⟩ ∧ CellsAt w b off ws)
    (hl1 : vs.length = xs.length * e.size) (hl2 : ws.length = ys.length * e.size) (h1 : ∀ u ∈ ws, u.oneCell' = true)
    (hcat : Cat (Has Z' w d e) (xs ++ ys) (vs ++ ws) fs)
    (hZZ : ∀ b, g.Z b → Z' b) (hZT : ∀ b, Z' b → g.Z b ∨ ((∃ id ∈ T, b ∈ g.fp id) ∧ ∀ off, A ≠ some ⟨b, off, none⟩))
    (hfs : ∀ b ∈ fs, ¬ Z' b ∧ (∃ id ∈ T, b ∈ g.fp id) ∧ ∀ off, A ≠ some ⟨b, off, none⟩) (hnd : fs.Nodup)
    (hK : K ⟨.one (.row (nid o.dst 0) ((H (nid o.dst 0)).inc + 1) 0 []), (nid o.dst 0, ⟨(H (nid o.dst 0)).inc + 1, 0, .row d e (xs ++ ys)⟩) :: dead H T⟩ = some y) : Goal P F σ a w g o K y := by
  obtain ⟨ff, hl⟩ := ebytes_some hbb he
  obtain ⟨et, i, zz, e1, e2, e3, e4, e5, e6, e7, e8⟩ := elem_facts htt hl
  obtain ⟨b', fs', hl'⟩ := elemT_some he'
  obtain ⟨et', i', zz', p1, _⟩ := elem_facts htt hl'
  simp only [fits, Bool.and_eq_true, decide_eq_true_eq, Nat.blt_eq] at hfits
  obtain ⟨v', w', hrun, os, tp, ou, sz, hend⟩ := run_append_gen (P := P) (w := w) (t := t) (t' := t') (ty := o.type) e1 p1 e3 e6 e5 (by rw [e7]; simpa using e8) e2 (A := A) (n := xs.length) (cap := cap) (olds := vs) hl1 hle
    (by
      rcases hA with ⟨h1, h2, h3⟩ | ⟨b, off, h1, h2, h3, _⟩
      · exact .inl ⟨h1, by rw [h2]; rfl, h3⟩
      · exact .inr ⟨b, off, h1, h2, h3⟩)
    (A' := A') (m := ys.length) (cap' := cap') (news := ws) hl2 (by
      rcases hA' with h | h
      · exact .inl (by rw [h]; rfl)
      · exact .inr h) h1 (by rw [e4]; exact hfits.1) (by rw [e4]; exact hfits.2)
  have hexec : (execOp a.eval o).run P w = .ok (.value v') w' := by
    unfold execOp
    rw [ho]
    simp [resolve, invoke, builtin, hx, hy, hrun]
  have hzlt : ∀ b, Z' b → b < w.heap.size := by
    intro b hb
    rcases hZT b hb with h | ⟨⟨id, _, h⟩, _⟩
    · exact r.zl b h
    · exact (r.rt id).lt b h
  rcases hend with ⟨a1, a2, a3, rfl, rfl⟩ | ⟨b, off, cap2, rfl, hle2, hc2, hown2, hb2, hfr⟩
  · have hx0 : xs = [] := List.length_eq_zero_iff.1 a3
    have hy0 : ys = [] := List.length_eq_zero_iff.1 a2
    have hfs0 : fs = [] := by subst hx0 hy0; exact hcat.2
    subst hfs0
    refine goal_newRow (Z' := Z') (T := T) (fp := []) r hH hn hT hZZ (fun b hb => (hZT b hb).imp id (·.1)) os tp ou sz (fun _ _ _ => rfl) (by simp) (by simp) ?_ hK hexec
    subst hx0 hy0
    exact ⟨none, 0, rfl, Nat.le_refl _, .inl ⟨rfl, rfl, rfl, rfl⟩⟩
  · have hkeep : ∀ k, k < w.heap.size → (∀ off, A ≠ some ⟨k, off, none⟩) → w'.heap[k]? = w.heap[k]? := fun k hk hne => hfr k hk (fun off e => hne off e)
    have hAfp : ∀ k off, A = some ⟨k, off, none⟩ → ∃ id ∈ T, k ∈ g.fp id := by
      intro k off e
      rcases hA with ⟨h, _⟩ | ⟨b, off', h, _, _, hid⟩
      · rw [e] at h; cases h
      · rw [e] at h; cases h; exact hid
    have hZk : ∀ b, Z' b → w'.heap[b]? = w.heap[b]? := by
      intro b hb
      refine hkeep b (hzlt b hb) ?_
      rcases hZT b hb with h | ⟨_, h⟩
      · intro off e
        obtain ⟨id, _, hid⟩ := hAfp b off e
        exact (r.sp id b hid).1 h
      · exact h
    refine goal_newRow (Z' := Z') (T := T) (fp := b :: fs) r hH hn hT hZZ (fun b hb => (hZT b hb).imp id (·.1)) os tp ou sz
      (fun k hk hne => hkeep k hk (fun off e => by obtain ⟨id, h1, h2⟩ := hAfp k off e; exact hne id h1 h2)) ?_ ?_ ?_ hK hexec
    · refine List.nodup_cons.2 ⟨fun hb => ?_, hnd⟩
      obtain ⟨_, ⟨id, h1, h2⟩, h3⟩ := hfs b hb
      rcases hb2 with h | h
      · exact h3 off h
      · have := (r.rt id).lt b h2; omega
    · intro k hk
      rcases List.mem_cons.1 hk with rfl | hk
      · rcases hb2 with h | h
        · obtain ⟨id, h1, h2⟩ := hAfp k off h
          refine ⟨fun hz => ?_, .inr ⟨id, h1, h2⟩⟩
          rcases hZT k hz with h' | ⟨_, h'⟩
          · exact (r.sp id k h2).1 h'
          · exact h' off h
        · exact ⟨fun hz => by have := hzlt k hz; omega, .inl (by omega)⟩
      · exact ⟨(hfs k hk).1, .inr (hfs k hk).2.1⟩
    · refine ⟨some ⟨b, off, none⟩, cap2, by simp, by simpa using hle2, .inr ⟨b, off, vs ++ ws, fs, rfl, hc2, ?_, rfl, hown2⟩⟩
      refine hcat.mono _ (fun x _ u f hf hxx => Has.frame hZk (fun _ h => h) hxx (fun b' hb' => ?_))
      obtain ⟨_, ⟨id, h1, h2⟩, h3⟩ := hfs b' (hf b' hb')
      exact hkeep b' ((r.rt id).lt b' h2) h3

theorem nil_src {d : Bool} {e : CK} {u : Value} (h : u = .slice none 0 0) : Src g w H σ.h d e ([] : List e.den) u [] none 0 [] [] :=
  ⟨h, Nat.le_refl _, ⟨rfl, rfl⟩, .inl rfl, by simp, by simp, by simp⟩

theorem x_src (r : Rl F σ a w g) (hH : HOk H σ.h o.dst) {v : CV} {e : CK} {xs : List e.den} {I : List Nat} (h : slOf H .shr v e = some (xs, I)) (hne : ∀ e' ys, v ≠ .sl e' ys) {u : Value} (hu : CVr g w σ.h v u) :
    ∃ A cap vs fs, Src g w H σ.h (dOf H v) e xs u I A cap vs fs ∧ ((A = none ∧ xs = [] ∧ cap = 0 ∧ ∀ id ∈ I, g.fp id = []) ∨ ∃ b off id, I = [id] ∧ A = some ⟨b, off, none⟩ ∧ CellsAt w b off vs ∧ OwnB w b (off + cap * e.size) ∧ g.fp id = b :: fs) := by
  cases v with
  | nil =>
    simp only [slOf, Option.some.injEq, Prod.mk.injEq] at h
    obtain ⟨rfl, rfl⟩ := h
    exact ⟨none, 0, [], [], nil_src hu, .inl ⟨rfl, rfl, rfl, by simp⟩⟩
  | row id inc ver p =>
    simp only [slOf] at h
    split at h
    · rename_i R hR
      split at h
      · rename_i ys hy
        cases p with
        | cons => simp at h
        | nil =>
          simp only [Option.some.injEq, Prod.mk.injEq] at h
          obtain ⟨rfl, rfl⟩ := h
          obtain ⟨d', zs, rfl, rfl⟩ := Row1.as_some hy
          obtain ⟨A, cap, vs, fs, hs, hor⟩ := row_src r hH hR hu
          have hd : dOf H (.row id inc ver []) = d' := by simp [dOf, hR]
          rw [hd]
          refine ⟨A, cap, vs, fs, hs, ?_⟩
          rcases hor with ⟨h1, h2, h3, h4⟩ | ⟨b, off, h1, h2, h3, h4⟩
          · exact .inl ⟨h1, h2, h3, by simpa using h4⟩
          · exact .inr ⟨b, off, id, rfl, h1, h2, h3, h4⟩
      · cases h
    · cases h
  | sl e' ys => exact absurd rfl (hne e' ys)
  | rsub id inc ver p lo hi =>
    have hdeep : slOf H .deep (.rsub id inc ver p lo hi) e = some (xs, I) := h
    have hd := slOf_deep r hH hdeep hu
    obtain ⟨rfl, hs⟩ : I = [id] ∧ H id = σ.h id := by
      simp only [slOf] at h
      split at h
      · rename_i R hR
        split at h
        · cases p with
          | cons => simp at h
          | nil =>
            simp only at h
            cases hb : e.flat <;> rw [hb] at h <;> simp at h
            exact ⟨h.2.symm, (rowAt_sound r hH hR).1⟩
        · cases h
      · cases h
    obtain ⟨u', hu', hd⟩ := hd
    simp only [List.cons.injEq, and_true] at hu'
    subst hu'
    rcases hd with ⟨_, hd⟩ | ⟨h', _⟩
    case inr => cases h'
    simp only [List.flatMap_cons, List.flatMap_nil, List.append_nil] at hd
    obtain ⟨A, cap, vs, fs, hs, hor⟩ := own_src hs (r.nd id) hd
    refine ⟨A, cap, vs, fs, hs, ?_⟩
    rcases hor with ⟨h1, h2, h3, h4⟩ | ⟨b, off, h1, h2, h3, h4⟩
    · exact .inl ⟨h1, h2, h3, by simpa using h4⟩
    · exact .inr ⟨b, off, id, rfl, h1, h2, h3, h4⟩
  | undef | int | bool | str | rp | fn | vptr | ptr | map => simp [slOf] at h

theorem y_src (r : Rl F σ a w g) (hH : HOk H σ.h o.dst) {v : CV} {e : CK} {xs : List e.den} {I : List Nat} (h : slOf H .shr v e = some (xs, I)) {u : Value} (hu : CVr g w σ.h v u) :
    ∃ A cap vs fs, Src g w H σ.h (dOfY H v) e xs u I A cap vs fs := by
  by_cases hsl : ∃ e' ys, v = .sl e' ys
  · obtain ⟨e', ys, rfl⟩ := hsl
    simp only [slOf] at h
    split at h
    · rename_i he
      subst he
      simp only [Option.some.injEq, Prod.mk.injEq, castL_id] at h
      obtain ⟨rfl, rfl⟩ := h
      obtain ⟨A, cap, vs, hs⟩ := sl_src (H := H) (σ := σ) hu
      exact ⟨A, cap, vs, [], hs⟩
    · cases h
  · obtain ⟨A, cap, vs, fs, hs, _⟩ := x_src r hH h (fun e' ys e => hsl ⟨e', ys, e⟩) hu
    refine ⟨A, cap, vs, fs, ?_⟩
    have : dOfY H v = dOf H v := by
      cases v <;> simp only [dOf, dOfY] <;> first | rfl | (simp [slOf] at h; done) | skip
      exact absurd rfl (fun e => hsl ⟨_, _, e⟩)
    rw [this]
    exact hs

theorem disB_mem : ∀ {l m : List Nat}, disB l m = true → ∀ i ∈ l, i ∉ m
  | [], m, _, i, hi => by simp at hi
  | a :: l, m, h, i, hi => by
    simp only [disB] at h
    cases hm : memB m a with
    | true => rw [hm] at h; cases h
    | false =>
      rw [hm] at h
      rcases List.mem_cons.1 hi with rfl | hi
      · intro hmem
        have key : ∀ m : List Nat, i ∈ m → memB m i = true := by
          intro m
          induction m with
          | nil => intro h; simp at h
          | cons b m ih =>
            intro h
            simp only [memB]
            rcases List.mem_cons.1 h with rfl | h
            · simp
            · rw [ih h]; cases Nat.beq b i <;> rfl
        rw [key m hmem] at hm
        cases hm
      · exact disB_mem h i hi

theorem appOld_sound (htt : TTok P tt) (r : Rl F σ a w g) (hH : HOk H σ.h o.dst) (hn : NwOk F o) {p q : Operand} {t t' : TypeId} (ho : o.op = .call { callee := .builtin .append, args := #[p, q], argTypes := #[t, t'] })
    {e e' : CK} {bb : Nat} (he : elemT tt t = some e) (hbb : ebytes tt t = some bb) (he' : elemT tt t' = some e') {v1 v2 : CV} (hp : CVr g w σ.h v1 (a.eval p)) (hq : CVr g w σ.h v2 (a.eval q))
    (h : appOld o H K e bb v1 v2 = some y) : Goal P F σ a w g o K y := by
    unfold appOld at h
    simp only at h
    split at h
    · cases h
    rename_i xs xi hxi
    have hp' : CVr g w σ.h v1 (a.eval p) := hp
    have hq' : CVr g w σ.h v2 (a.eval q) := hq
    have hns : ∀ e' ys, v1 ≠ .sl e' ys := by
      rintro e' ys rfl
      cases h
    have h2 : (bif e.flat then
                  match slOf H .bor v2 e with
                  | some (ys, yi) => bif disB xi yi then grd (fits (xs.length + ys.length) bb) (K ⟨.one (.row (nid o.dst 0) ((H (nid o.dst 0)).inc + 1) 0 []), (nid o.dst 0, ⟨(H (nid o.dst 0)).inc + 1, 0, .row true e (xs ++ ys)⟩) :: dead H xi⟩) else none
                  | none => none
                else match slOf H .shr v2 e with
                  | some (ys, yi) =>
                    bif disB xi yi then grd (fits (xs.length + ys.length) bb) (K ⟨.one (.row (nid o.dst 0) ((H (nid o.dst 0)).inc + 1) 0 []), (nid o.dst 0, ⟨(H (nid o.dst 0)).inc + 1, 0, .row (dOf H v1 && dOfY H v2) e (xs ++ ys)⟩) :: dead H (xi ++ yi)⟩) else none
                  | none => none) = some y := by
      cases v1 <;> first | exact h | exact absurd rfl (hns _ _)
    clear h
    obtain ⟨A, cap, vs, fs, hs, hA⟩ := x_src r hH hxi hns hp'
    obtain ⟨ff, hl⟩ := ebytes_some hbb he
    have hl1 : vs.length = xs.length * e.size := Cat.len (fun _ _ _ h => Has.len h) hs.cat
    have hfp : ∀ id ∈ xi, ∀ b ∈ g.fp id, b ∈ fs ∨ ∃ off, A = some ⟨b, off, none⟩ := by
      intro id hid b hb
      rcases hA with ⟨_, _, _, h4⟩ | ⟨b0, off, id0, rfl, h2, _, _, h5⟩
      · rw [h4 id hid] at hb; simp at hb
      · simp only [List.mem_singleton] at hid
        subst hid
        rw [h5] at hb
        rcases List.mem_cons.1 hb with rfl | hb
        · exact .inr ⟨off, h2⟩
        · exact .inl hb
    have hAid : ∀ b off, A = some ⟨b, off, none⟩ → ∃ id ∈ xi, b ∈ g.fp id := by
      intro b off e
      rcases hA with ⟨h, _⟩ | ⟨b0, off0, id0, rfl, h2, _, _, h5⟩
      · rw [e] at h; cases h
      · rw [e] at h2; cases h2; exact ⟨id0, by simp, by rw [h5]; simp⟩
    have hfsA : ∀ b ∈ fs, ∀ off, A ≠ some ⟨b, off, none⟩ := by
      intro b hb off e
      rcases hA with ⟨h, _⟩ | ⟨b0, off0, id0, rfl, h2, _, _, h5⟩
      · rw [e] at h; cases h
      · rw [e] at h2
        cases h2
        have := r.nd id0
        rw [h5] at this
        exact (List.nodup_cons.1 this).1 hb
    have hAown : ∀ T : List Nat, (∀ id ∈ xi, id ∈ T) → ((A = none ∧ xs = [] ∧ cap = 0) ∨ ∃ b off, A = some ⟨b, off, none⟩ ∧ CellsAt w b off vs ∧ OwnB w b (off + cap * e.size) ∧ ∃ id ∈ T, b ∈ g.fp id) := by
      intro T hT
      rcases hA with ⟨h1, h2, h3, _⟩ | ⟨b, off, id, rfl, h1, h2, h3, h4⟩
      · exact .inl ⟨h1, h2, h3⟩
      · exact .inr ⟨b, off, h1, h2, h3, id, hT id (by simp), by rw [h4]; simp⟩
    cases hfl : e.flat with
    | true =>
      rw [hfl] at h2
      simp only [cond_true] at h2
      split at h2
      case h_2 => cases h2
      rename_i ys yi hyi
      obtain ⟨hd, h3⟩ := cond_some h2
      obtain ⟨hfits, hK⟩ := grd_some h3
      have hys := slOf_shared (Z' := fun _ => True) r hH hyi hq' (fun _ _ => trivial) (fun _ _ _ _ => trivial)
      obtain ⟨A', cap', ws, hs'⟩ := sl_src (H := H) (σ := σ) (g := ⟨fun _ => True, g.loc, g.fp⟩) hys
      have flat : ∀ {Z1 : Nat → Prop} {d1 : Bool} {l : List e.den} {us fs}, Cat (Has Z1 w d1 e) l us fs → Cat (Has g.Z w true e) l us [] := by
        intro Z1 d1 l
        induction l with
        | nil => rintro us fs ⟨h, _⟩; exact ⟨h, rfl⟩
        | cons x l ih =>
          rintro us fs ⟨u1, u2, f1, f2, h, _, k1, k2⟩
          obtain ⟨_, k⟩ := Has.flat hfl k1
          exact ⟨u1, u2, [], [], h, rfl, k _ _ _, ih k2⟩
      exact goal_append htt r hH hn ho he hbb he' hfits hs.same hs.v hs.le hs'.v (hAown xi (fun _ h => h)) hs'.at_ hl1 (Cat.len (fun _ _ _ h => Has.len h) hs'.cat) (Cat.one_cells (fun _ _ _ h => Has.one h) hs'.cat)
        (Z' := g.Z) (fs := []) ((flat hs.cat).append (flat hs'.cat)) (fun _ h => h) (fun _ h => .inl h) (by simp) (by simp) hK
    | false =>
      rw [hfl] at h2
      simp only [cond_false] at h2
      split at h2
      case h_2 => cases h2
      rename_i ys yi hyi
      obtain ⟨hd, h3⟩ := cond_some h2
      obtain ⟨hfits, hK⟩ := grd_some h3
      obtain ⟨A', cap', ws, gs, hs'⟩ := y_src r hH hyi hq'
      have hT : ∀ id ∈ xi ++ yi, H id = σ.h id := fun id hid => (List.mem_append.1 hid).elim (hs.same id) (hs'.same id)
      have hgsA : ∀ b ∈ gs, ∀ off, A ≠ some ⟨b, off, none⟩ := by
        intro b hb off e
        obtain ⟨id, h1, h2⟩ := hs'.fp b hb
        obtain ⟨id', h3, h4⟩ := hAid b off e
        have := r.dj id id' b h2 h4
        subst this
        exact disB_mem hd id h3 h1
      have hin : ∀ b ∈ fs ++ gs, (∃ id ∈ xi ++ yi, b ∈ g.fp id) ∧ ∀ off, A ≠ some ⟨b, off, none⟩ := by
        intro b hb
        rcases List.mem_append.1 hb with hb | hb
        · obtain ⟨id, h1, h2⟩ := hs.fp b hb
          exact ⟨⟨id, by simp [h1], h2⟩, hfsA b hb⟩
        · obtain ⟨id, h1, h2⟩ := hs'.fp b hb
          exact ⟨⟨id, by simp [h1], h2⟩, hgsA b hb⟩
      have hndd : (fs ++ gs).Nodup := by
        refine List.nodup_append.2 ⟨hs.nd, hs'.nd, ?_⟩
        rintro b h1 b' h2 rfl
        obtain ⟨id, h3, h4⟩ := hs.fp b h1
        obtain ⟨id', h5, h6⟩ := hs'.fp b h2
        have := r.dj id id' b h4 h6
        subst this
        exact disB_mem hd id h3 h5
      have hl2 : ws.length = ys.length * e.size := Cat.len (fun _ _ _ h => Has.len h) hs'.cat
      have ho1 := Cat.one_cells (fun _ _ _ h => Has.one h) hs'.cat
      cases hdd : (dOf H v1 && dOfY H v2) with
      | true =>
        rw [hdd] at hK
        rw [Bool.and_eq_true] at hdd
        have hc1 := hs.cat
        have hc2 := hs'.cat
        rw [hdd.1] at hc1
        rw [hdd.2] at hc2
        exact goal_append htt r hH hn ho he hbb he' hfits hT hs.v hs.le hs'.v (hAown _ (fun _ h => by simp [h])) hs'.at_ hl1 hl2 ho1 (Z' := g.Z) (fs := fs ++ gs) (hc1.append hc2) (fun _ h => h) (fun _ h => .inl h)
          (fun b hb => ⟨fun hz => by obtain ⟨⟨id, _, h⟩, _⟩ := hin b hb; exact (r.sp id b h).1 hz, hin b hb⟩) hndd hK
      | false =>
        rw [hdd] at hK
        let Z' : Nat → Prop := fun b => g.Z b ∨ b ∈ fs ++ gs
        have hc1 := Cat.share (Z' := Z') (fun b h => .inl h) hs.cat (fun b h => .inr (by simp [h]))
        have hc2 := Cat.share (Z' := Z') (fun b h => .inl h) hs'.cat (fun b h => .inr (by simp [h]))
        exact goal_append htt r hH hn ho he hbb he' hfits hT hs.v hs.le hs'.v (hAown _ (fun _ h => by simp [h])) hs'.at_ hl1 hl2 ho1 (Z' := Z') (fs := []) (hc1.append hc2) (fun _ h => .inl h) (fun b h => h.imp id (hin b)) (by simp) (by simp) hK
end
end VM

/- append, of rows inside of rows, and of rows that leave a row. -/
set_option linter.unusedVariables false
set_option linter.unusedSimpArgs false
namespace VM
open Go

section
variable {P : Program} {F : Fx} {σ : St} {a : Act} {w : World} {g : Gh} {R : Type} {tt : List (Nat × TD)} {env : List Ct} {k : Nat} {o : Oper} {H : Nat → RE} {K : Upd → Option R} {y : R}

/-- As goal_append, but one root stays, with less in it. -/
theorem goal_append_q (htt : TTok P tt) (r : Rl F σ a w g) (hH : HOk H σ.h o.dst) (hn : NwOk F o) {x z : Operand} {t t' : TypeId} (ho : o.op = .call { callee := .builtin .append, args := #[x, z], argTypes := #[t, t'] })
    {e e' : CK} {bb : Nat} (he : elemT tt t = some e) (hbb : ebytes tt t = some bb) (he' : elemT tt t' = some e') {xs ys : List e.den} (hfits : fits (xs.length + ys.length) bb = true)
    {T : List Nat} (hT : ∀ id ∈ T, H id = σ.h id) {A A' : Option Addr} {cap cap' : Nat} {vs ws : List Value} {fs : List Nat}
    {id : Nat} {re : RE} {fq : List Nat} (hidT : id ∉ T) (hidm : id ≠ nid o.dst 0) (hinc : re.inc = (σ.h id).inc) (hver : (σ.h id).ver < re.ver) (hsame : SameC (σ.h id).c re.c)
    (hfq : ∀ b ∈ fq, b ∈ g.fp id ∧ b ∉ fs ∧ ∀ off, A ≠ some ⟨b, off, none⟩) (hfqn : fq.Nodup)
    (hrq : ∀ (w' : World) (h' : Nat → RE) (g' : Gh), g'.Z = g.Z → (∀ b, g.Z b → w'.heap[b]? = w.heap[b]?) → (∀ b ∈ fq, w'.heap[b]? = w.heap[b]?) → RR g' w' h' re (g.loc id) fq)
    (hx : a.eval x = .slice A xs.length cap) (hle : xs.length ≤ cap) (hy : a.eval z = .slice A' ys.length cap')
    (hA : (A = none ∧ xs = [] ∧ cap = 0) ∨ ∃ b off, A = some ⟨b, off, none⟩ ∧ CellsAt w b off vs ∧ OwnB w b (off + cap * e.size) ∧ ∃ i, (i ∈ T ∨ i = id) ∧ b ∈ g.fp i)
    (hA' : ys = [] ∨ ∃ b off, A' = some ⟨b, off, none⟩ ∧ CellsAt w b off ws)
    (hl1 : vs.length = xs.length * e.size) (hl2 : ws.length = ys.length * e.size) (h1 : ∀ u ∈ ws, u.oneCell' = true)
    (hcat : Cat (Has g.Z w true e) (xs ++ ys) (vs ++ ws) fs)
    (hfs : ∀ b ∈ fs, (∃ i, (i ∈ T ∨ i = id) ∧ b ∈ g.fp i) ∧ ∀ off, A ≠ some ⟨b, off, none⟩) (hnd : fs.Nodup)
    (hK : K ⟨.one (.row (nid o.dst 0) ((H (nid o.dst 0)).inc + 1) 0 []), (nid o.dst 0, ⟨(H (nid o.dst 0)).inc + 1, 0, .row true e (xs ++ ys)⟩) :: (id, re) :: dead H T⟩ = some y) : Goal P F σ a w g o K y := by
  obtain ⟨ff, hl⟩ := ebytes_some hbb he
  obtain ⟨et, i, zz, e1, e2, e3, e4, e5, e6, e7, e8⟩ := elem_facts htt hl
  obtain ⟨b', fs', hl'⟩ := elemT_some he'
  obtain ⟨et', i', zz', p1, _⟩ := elem_facts htt hl'
  simp only [fits, Bool.and_eq_true, decide_eq_true_eq, Nat.blt_eq] at hfits
  obtain ⟨v', w', hrun, os, tp, ou, sz, hend⟩ := run_append_gen (P := P) (w := w) (t := t) (t' := t') (ty := o.type) e1 p1 e3 e6 e5 (by rw [e7]; simpa using e8) e2 (A := A) (n := xs.length) (cap := cap) (olds := vs) hl1 hle
    (by
      rcases hA with ⟨h1, h2, h3⟩ | ⟨b, off, h1, h2, h3, _⟩
      · exact .inl ⟨h1, by rw [h2]; rfl, h3⟩
      · exact .inr ⟨b, off, h1, h2, h3⟩)
    (A' := A') (m := ys.length) (cap' := cap') (news := ws) hl2 (by
      rcases hA' with h | h
      · exact .inl (by rw [h]; rfl)
      · exact .inr h) h1 (by rw [e4]; exact hfits.1) (by rw [e4]; exact hfits.2)
  have hexec : (execOp a.eval o).run P w = .ok (.value v') w' := by
    unfold execOp
    rw [ho]
    simp [resolve, invoke, builtin, hx, hy, hrun]
  have hm0 := hH.n 0 (by omega)
  -- the new row, whatever its block
  have fin : ∀ (fpn : List Nat), v'.oneCell' = true → fpn.Nodup → (∀ b ∈ fpn, ¬ g.Z b ∧ (w.heap.size ≤ b ∨ ∃ i, (i ∈ T ∨ i = id) ∧ b ∈ g.fp i)) → (∀ b ∈ fpn, b ∉ fq) →
      (∀ b, b < w.heap.size → (∀ i, (i ∈ T ∨ i = id) → b ∉ g.fp i) → w'.heap[b]? = w.heap[b]?) → (∀ b ∈ fq, w'.heap[b]? = w.heap[b]?) →
      Row g.Z w' true e (xs ++ ys) v' fpn → Goal P F σ a w g o K y := by
    intro fpn hone hn1 hn2 hn3 hfr hfq2 hrow
    let q0 : Claim := ⟨nid o.dst 0, ⟨(H (nid o.dst 0)).inc + 1, 0, .row true e (xs ++ ys)⟩, v', fpn⟩
    let q1 : Claim := ⟨id, re, g.loc id, fq⟩
    have hZ : ∀ b, g.Z b → w'.heap[b]? = w.heap[b]? := fun b hb => hfr b (r.zl b hb) (fun i _ h => (r.sp i b h).1 hb)
    obtain ⟨g', r', hZ', hagr, hext⟩ := Rl.many (H := H) (L := [q0, q1]) (Z' := g.Z) (w' := w') r hT
      (by
        simp only [q0, q1, List.map_cons, List.map_nil, List.nodup_cons, List.mem_singleton, List.not_mem_nil, not_false_eq_true, List.nodup_nil, and_true]
        exact fun h => hidm h.symm)
      (by
        intro q hq
        simp only [List.mem_cons, List.not_mem_nil, or_false] at hq
        rcases hq with rfl | rfl
        · left
          refine ⟨?_, fun p hp => hn p hp 0 (by omega)⟩
          show (σ.h (nid o.dst 0)).inc < (H (nid o.dst 0)).inc + 1
          rw [hm0]
          exact Nat.lt_succ_self _
        · right
          refine ⟨⟨hinc, Nat.le_of_lt hver, rfl, hsame, fun hv => ?_⟩, hidT⟩
          have : re.ver = (σ.h id).ver := hv
          omega)
      (fun _ h => h) (fun _ h => .inl h) (fun b hb => Nat.lt_of_lt_of_le (r.zl b hb) sz) os tp ou sz
      (fun b hb hne => hfr b hb (fun i hi => hne i (hi.imp (fun h => h) (fun h => ⟨q1, by simp, h.symm⟩))))
      (by
        simp only [q0, q1, List.flatMap_cons, List.flatMap_nil, List.append_nil]
        exact List.nodup_append.2 ⟨hn1, hfqn, fun b h1 b' h2 e => hn3 b h1 (by rw [e]; exact h2)⟩)
      (by
        intro q hq b hb
        simp only [List.mem_cons, List.not_mem_nil, or_false] at hq
        rcases hq with rfl | rfl
        · obtain ⟨h1, h2⟩ := hn2 b hb
          exact ⟨h1, h2.imp (fun h => h) (fun ⟨i, h, h'⟩ => ⟨i, h.imp (fun h => h) (fun h => ⟨q1, by simp, h.symm⟩), h'⟩)⟩
        · have := (hfq b hb).1
          exact ⟨(r.sp id b this).1, .inr ⟨id, .inr ⟨q1, by simp, rfl⟩, this⟩⟩)
      (by
        intro h' g' hz ha q hq
        simp only [List.mem_cons, List.not_mem_nil, or_false] at hq
        rcases hq with rfl | rfl
        · show Row g'.Z w' true e (xs ++ ys) v' fpn
          rw [hz]
          exact hrow
        · exact hrq w' h' g' hz hZ hfq2)
    refine ⟨_, hK, OpPost.value hexec ⟨g', r', ?_⟩⟩
    obtain ⟨a1, a2, a3⟩ := hagr q0 (by simp)
    have a1' : setH σ.h ([q0, q1].map Claim.pr ++ dead H T) (nid o.dst 0) = q0.re := a1
    refine ⟨⟨?_, ?_, hone⟩, fun d' e' hc _ => ?_⟩
    · show (H (nid o.dst 0)).inc + 1 ≤ (setH σ.h ([q0, q1].map Claim.pr ++ dead H T) (nid o.dst 0)).inc
      rw [a1']
      exact Nat.le_refl _
    · intro _
      exact Nat.zero_le _
    · show v' = g'.loc (nid o.dst 0)
      exact a2.symm
  rcases hend with ⟨a1, a2, a3, rfl, rfl⟩ | ⟨b, off, cap2, rfl, hle2, hc2, hown2, hb2, hfr⟩
  · have hx0 : xs = [] := List.length_eq_zero_iff.1 a3
    have hy0 : ys = [] := List.length_eq_zero_iff.1 a2
    subst hx0 hy0
    exact fin [] rfl (by simp) (by simp) (by simp) (fun _ _ _ => rfl) (fun _ _ => rfl) ⟨none, 0, rfl, Nat.le_refl _, .inl ⟨rfl, rfl, rfl, rfl⟩⟩
  · have hkeep : ∀ k, k < w.heap.size → (∀ off, A ≠ some ⟨k, off, none⟩) → w'.heap[k]? = w.heap[k]? := fun k hk hne => hfr k hk (fun off e => hne off e)
    have hAfp : ∀ k off, A = some ⟨k, off, none⟩ → ∃ i, (i ∈ T ∨ i = id) ∧ k ∈ g.fp i := by
      intro k off e
      rcases hA with ⟨h, _⟩ | ⟨b, off', h, _, _, hid⟩
      · rw [e] at h; cases h
      · rw [e] at h; cases h; exact hid
    have hZk : ∀ b, g.Z b → w'.heap[b]? = w.heap[b]? := by
      intro b hb
      refine hkeep b (r.zl b hb) ?_
      intro off e
      obtain ⟨i, _, hid⟩ := hAfp b off e
      exact (r.sp i b hid).1 hb
    have hlt : ∀ k, (∃ i, (i ∈ T ∨ i = id) ∧ k ∈ g.fp i) → k < w.heap.size := fun k ⟨i, _, h⟩ => (r.rt i).lt k h
    refine fin (b :: fs) rfl ?_ ?_ ?_ ?_ ?_ ?_
    · refine List.nodup_cons.2 ⟨fun hb => ?_, hnd⟩
      obtain ⟨h2, h3⟩ := hfs b hb
      rcases hb2 with h | h
      · exact h3 off h
      · have := hlt b h2; omega
    · intro k hk
      rcases List.mem_cons.1 hk with rfl | hk
      · rcases hb2 with h | h
        · obtain ⟨i, h1, h2⟩ := hAfp k off h
          exact ⟨(r.sp i k h2).1, .inr ⟨i, h1, h2⟩⟩
        · exact ⟨fun hz => by have := r.zl k hz; omega, .inl (by omega)⟩
      · obtain ⟨⟨i, h1, h2⟩, _⟩ := hfs k hk
        exact ⟨(r.sp i k h2).1, .inr ⟨i, h1, h2⟩⟩
    · intro k hk hkq
      obtain ⟨g1, g2, g3⟩ := hfq k hkq
      rcases List.mem_cons.1 hk with rfl | hk
      · rcases hb2 with h | h
        · exact g3 off h
        · have := (r.rt id).lt k g1; omega
      · exact g2 hk
    · intro k hk hne
      refine hkeep k hk (fun off e => ?_)
      obtain ⟨i, h1, h2⟩ := hAfp k off e
      exact hne i h1 h2
    · intro k hk
      obtain ⟨g1, g2, g3⟩ := hfq k hk
      exact hkeep k ((r.rt id).lt k g1) g3
    · refine ⟨some ⟨b, off, none⟩, cap2, by simp, by simpa using hle2, .inr ⟨b, off, vs ++ ws, fs, rfl, hc2, ?_, rfl, hown2⟩⟩
      refine hcat.mono _ (fun x _ u f hf hxx => Has.frame hZk (fun _ h => h) hxx (fun b' hb' => ?_))
      obtain ⟨h2, h3⟩ := hfs b' (hf b' hb')
      exact hkeep b' (hlt b' h2) h3

theorem Cat.flat_fp {Z : Nat → Prop} {w : World} {d : Bool} {e : CK} (he : e.flat = true) {xs : List e.den} {us : List Value} {fp : List Nat} (h : Cat (Has Z w d e) xs us fp) : fp = [] := by
  have := Cat.fp_mem (B := fun _ => False) (fun x u f hx b hb => by rw [(Has.flat he hx).1] at hb; simp at hb) h
  cases fp with
  | nil => rfl
  | cons a l => exact (this a (by simp)).elim
theorem Cat.flat_any {Z Z' : Nat → Prop} {w : World} {d d' : Bool} {e : CK} (he : e.flat = true) : ∀ {xs : List e.den} {us : List Value} {fp : List Nat}, Cat (Has Z w d e) xs us fp → Cat (Has Z' w d' e) xs us []
  | [], _, _, ⟨h, _⟩ => ⟨h, rfl⟩
  | x :: l, _, _, ⟨u1, u2, f1, f2, h, _, k1, k2⟩ => by
    obtain ⟨_, k⟩ := Has.flat he k1
    exact ⟨u1, u2, [], [], h, rfl, k _ _ _, Cat.flat_any he k2⟩

theorem lens_sl {e e1 e2 : CK} {off : Nat} {L : Lens e (.sl e1)} {L' : Lens e (.sl e2)} (h : e.lens off (.sl e1) = some L) (h' : e.lens off (.sl e2) = some L') : e1 = e2 := by
  have k1 := CK.cell_lens h (j := 0) (e1 := e1) rfl
  have k2 := CK.cell_lens h' (j := 0) (e1 := e2) rfl
  rw [k1] at k2
  simp only [Option.some.injEq, CK.sl.injEq] at k2
  exact k2

/-- A row inside of a row of owned elements, and what is left when it is taken. -/
theorem nest_at (r : Rl F σ a w g) {id inc ver : Nat} {i : Int} {off : Nat} {u : Value} {e0 : CK} {xs0 : List e0.den} (hc : (σ.h id).c = .row true e0 xs0) (hi : inc = (σ.h id).inc) (hv : ver = (σ.h id).ver)
    (hu : CVr g w σ.h (.row id inc ver [(i, off)]) u) {e : CK} {L : Lens e0 (.sl e)} (hL : e0.lens off (.sl e) = some L) :
    ∃ fm fq, Row g.Z w true e (L.get (rdL xs0 i e0.dflt)) u fm ∧ (∀ b, b ∈ g.fp id ↔ b ∈ fq ∨ b ∈ fm) ∧ fq.Nodup ∧ fm.Nodup ∧ (∀ b ∈ fq, b ∉ fm) ∧ HoleR g.Z w e0 xs0 i off (g.loc id) fq := by
  have hrow := r.rt id
  unfold RR at hrow
  rw [hc] at hrow
  simp only at hrow
  obtain ⟨b, o, len, cap, u1, e1, hloc, h0, h1, hcell, hcu, hat⟩ := hu.2 true e0 (by rw [hc]; rfl) ⟨hi, .inr ⟨hv, rfl⟩⟩
  have hat : u = u1 := hat
  subst hat
  have hlen : len = xs0.length := by
    obtain ⟨A, cap', hv, _⟩ := hrow
    rw [hloc] at hv
    cases hv
    rfl
  subst hlen
  obtain ⟨b', o', cap', f1, fm, f2, um, hv', hfp, hown, hcap, hsz, hcl, hhas, hset⟩ := RowOwn.elem hrow h0 h1 hL
  rw [hloc] at hv'
  cases hv'
  obtain ⟨u', rfl, hm⟩ := hhas
  rcases hm with ⟨_, hm⟩ | ⟨h, _⟩
  case inr => cases h
  have hu' := hcl 0 u' rfl
  rw [Nat.add_zero, hcu] at hu'
  cases hu'
  have hnd := r.nd id
  rw [hfp] at hnd
  have hlt : ∀ k ∈ g.fp id, k < w.heap.size := (r.rt id).lt
  refine ⟨fm, b :: (f1 ++ f2), hm, fun k => ?_, ?_, ?_, ?_, ?_⟩
  · rw [hfp]
    simp only [List.mem_cons, List.mem_append]
    grind
  · refine hnd.sublist ?_
    exact List.Sublist.cons_cons _ (List.Sublist.append (List.Sublist.refl _) (List.sublist_append_right _ _))
  · refine hnd.sublist ?_
    exact List.Sublist.cons _ (List.Sublist.trans (List.sublist_append_left _ _) (List.sublist_append_right _ _))
  · intro k hk hkm
    simp only [List.nodup_cons, List.nodup_append, List.mem_append, not_or] at hnd
    simp only [List.mem_cons, List.mem_append] at hk
    rcases hk with rfl | hk | hk
    · exact hnd.1.2.1 hkm
    · exact hnd.2.2.2 k hk k (.inl hkm) rfl
    · exact hnd.2.2.1.2.2 k hkm k hk rfl
  · rw [hloc]
    refine ⟨b, o, cap, f1, f2, rfl, rfl, hown, hcap, by simpa [CK.size] using hsz, h0, h1, fun k hk => hlt k ?_, fun e2 L2 hL2 Z' w' yy uu fm' g1 g2 g3 g4 g5 g6 g7 => ?_⟩
    · rw [hfp]
      simp only [List.mem_cons, List.mem_append] at hk ⊢
      grind
    · have := lens_sl hL hL2
      subst this
      rw [hL] at hL2
      cases hL2
      have := hset Z' w' yy [uu] fm' g1 g2 g3 g4 (fun j hj => g5 j hj) g6 g7
      rwa [hloc] at this

theorem memB_mem {m : List Nat} {i : Nat} (h : memB m i = false) : i ∉ m := by
  intro hm
  induction m with
  | nil => simp at hm
  | cons b m ih =>
    simp only [memB] at h
    rcases List.mem_cons.1 hm with rfl | hm
    · simp at h
    · cases hb : Nat.beq b i with
      | true => rw [hb] at h; cases h
      | false => rw [hb] at h; exact ih h hm

theorem beq_ff {a b : Nat} (h : Nat.beq a b = false) : a ≠ b := by
  rintro rfl
  simp at h

theorem appNest_sound (htt : TTok P tt) (r : Rl F σ a w g) (hH : HOk H σ.h o.dst) (hn : NwOk F o) {p q : Operand} {t t' : TypeId} (ho : o.op = .call { callee := .builtin .append, args := #[p, q], argTypes := #[t, t'] })
    {e e' : CK} {bb : Nat} (he : elemT tt t = some e) (hbb : ebytes tt t = some bb) (he' : elemT tt t' = some e') {id inc ver : Nat} {i : Int} {off : Nat} {v2 : CV} (hp : CVr g w σ.h (.row id inc ver [(i, off)]) (a.eval p)) (hq : CVr g w σ.h v2 (a.eval q))
    (h : appNest o H K e bb id inc ver i off v2 = some y) : Goal P F σ a w g o K y := by
  unfold appNest at h
  split at h
  case h_2 => cases h
  rename_i i0 v0 e0 xs0 hid
  replace h := cond_some h
  obtain ⟨hb, h⟩ := h
  simp only [Bool.and_eq_true] at hb
  obtain ⟨⟨hb1, hb2⟩, hfl⟩ := hb
  have hb1 := Nat.eq_of_beq_eq_true hb1
  have hb2 := Nat.eq_of_beq_eq_true hb2
  subst hb1 hb2
  split at h
  case h_2 => cases h
  rename_i e1 hce
  split at h
  case h_2 => cases h
  rename_i L hL
  split at h
  case isFalse => cases h
  rename_i hee
  subst hee
  split at h
  case h_2 => cases h
  rename_i ys yi hyi
  simp only [castL_id] at h
  cases hbm : (memB yi id || Nat.beq (nid o.dst 0) id) with
  | true => rw [hbm] at h; cases h
  | false =>
  rw [hbm] at h
  simp only [cond_false] at h
  obtain ⟨hfits, hK⟩ := grd_some h
  rw [Bool.or_eq_false_iff] at hbm
  have hyid := memB_mem hbm.1
  have hmid := beq_ff hbm.2
  have hs : σ.h id = ⟨i0, v0, .row true e0 xs0⟩ := by rw [← hH.c id (by rw [hid]; simp), hid]
  obtain ⟨fm, fq, n1, n2, n3, n4, n5, n6⟩ := nest_at r (by rw [hs]) (by rw [hs]) (by rw [hs]) hp hL
  have hys := slOf_shared (Z' := fun _ => True) r hH hyi hq (fun _ _ => trivial) (fun _ _ _ _ => trivial)
  obtain ⟨A', cap', ws, hs'⟩ := sl_src (H := H) (σ := σ) (g := ⟨fun _ => True, g.loc, g.fp⟩) hys
  obtain ⟨A, cap, hv, hc, hm⟩ := n1
  have hmain : ∀ (vs : List Value) (fs' : List Nat), Cat (Has g.Z w true e1) (L.get (rdL xs0 i e0.dflt)) vs fs' →
      ((A = none ∧ L.get (rdL xs0 i e0.dflt) = [] ∧ cap = 0) ∨ ∃ b off, A = some ⟨b, off, none⟩ ∧ CellsAt w b off vs ∧ OwnB w b (off + cap * e1.size) ∧ b ∈ fm) → Goal P F σ a w g o K y := by
    intro vs fs' hcat hA
    refine goal_append_q htt r hH hn ho he hbb he' hfits (T := []) (by simp) (id := id) (re := ⟨i0, v0 + 1, .hole e0 xs0 i off⟩) (fq := fq) (fs := []) (by simp) (Ne.symm hmid) (by rw [hs]) (by rw [hs]; exact Nat.lt_succ_self _)
      (by rw [hs]; exact ⟨fun d e h => (by simp only [RC.kd, Option.some.injEq, Prod.mk.injEq] at h; exact ⟨true, by rw [← h.2]; rfl⟩), fun cs h => (by cases h), fun k e xs h => (by cases h)⟩)
      (fun b hb => ⟨(n2 b).2 (.inl hb), by simp, fun off' e => ?_⟩) n3
      (fun w' h' g' hz hZ hf => ?_) hv hc hs'.v ?_ hs'.at_ (Cat.len (fun _ _ _ h => Has.len h) hcat) (Cat.len (fun _ _ _ h => Has.len h) hs'.cat) (Cat.one_cells (fun _ _ _ h => Has.one h) hs'.cat)
      ((Cat.flat_any hfl hcat).append (Cat.flat_any hfl hs'.cat)) (by simp) (by simp) hK
    · rcases hA with ⟨h1, _⟩ | ⟨b1, off1, h1, _, _, h2⟩
      · rw [e] at h1; cases h1
      · rw [e] at h1; cases h1; exact n5 b hb h2
    · show HoleR g'.Z w' e0 xs0 i off (g.loc id) fq
      rw [hz]
      exact n6.frame hZ (fun _ h => h) hf
    · rcases hA with h1 | ⟨b1, off1, h1, h2, h3, h4⟩
      · exact .inl h1
      · exact .inr ⟨b1, off1, h1, h2, h3, id, .inr rfl, (n2 b1).2 (.inr h4)⟩
  rcases hm with ⟨h1, h2, h3, h4⟩ | ⟨b1, off1, vs, fs, h1, h2, h3, h4, h5⟩
  · exact hmain [] [] (by rw [h1]; exact ⟨rfl, rfl⟩) (.inl ⟨h3, h1, h4⟩)
  · exact hmain vs fs h3 (.inr ⟨b1, off1, h1, h2, h5, by rw [h4]; simp⟩)
end
end VM

/- append, of rows that lie in another row. -/
set_option linter.unusedVariables false
set_option linter.unusedSimpArgs false
namespace VM
open Go

theorem Cat.cut3 {α : Type} {P : α → List Value → List Nat → Prop} {xs : List α} {us : List Value} {fs : List Nat} (h : Cat P xs us fs) {l r : Nat} (hlr : l ≤ r) :
    ∃ u1 um u2 f1 fm f2, us = u1 ++ (um ++ u2) ∧ fs = f1 ++ (fm ++ f2) ∧ Cat P (xs.take l) u1 f1 ∧ Cat P ((xs.drop l).take (r - l)) um fm ∧ Cat P (xs.drop r) u2 f2 := by
  have hx : xs = xs.take l ++ ((xs.drop l).take (r - l) ++ (xs.drop l).drop (r - l)) := by rw [List.take_append_drop, List.take_append_drop]
  rw [hx] at h
  obtain ⟨u1, u2, f1, f2, rfl, rfl, c1, c2⟩ := Cat.split h
  obtain ⟨u2, u3, f2, f3, rfl, rfl, c2, c3⟩ := Cat.split c2
  refine ⟨u1, u2, u3, f1, f2, f3, rfl, rfl, c1, c2, ?_⟩
  rwa [List.drop_drop, show l + (r - l) = r by omega] at c3

theorem sub_addr (b off cap l s : Nat) : ∃ o', (if cap = l then some (⟨b, off, none⟩ : Addr) else Option.map (·.add (l * s)) (some (⟨b, off, none⟩ : Addr))) = some ⟨b, o', none⟩ ∧ (cap ≠ l → o' = off + l * s) ∧ (cap = l → o' = off) := by
  by_cases h : cap = l
  · exact ⟨off, by rw [if_pos h], fun h' => absurd h h', fun _ => rfl⟩
  · refine ⟨off + l * s, ?_, fun _ => rfl, fun h' => absurd h' h⟩
    rw [if_neg h]
    simp only [Option.map_some, Addr.add]
    split
    · rename_i h'; simp [h']
    · rfl


theorem CellsAt.uniq {w : World} {b o : Nat} {us vs : List Value} (h1 : CellsAt w b o us) (h2 : CellsAt w b o vs) (hl : us.length = vs.length) : us = vs := by
  apply List.ext_getElem? 
  intro i
  by_cases hi : i < us.length
  · rw [List.getElem?_eq_getElem hi, List.getElem?_eq_getElem (by omega)]
    have a := h1 i _ (List.getElem?_eq_getElem hi)
    have b' := h2 i _ (List.getElem?_eq_getElem (show i < vs.length by omega))
    rw [a] at b'
    exact b'
  · rw [List.getElem?_eq_none (by omega), List.getElem?_eq_none (by omega)]

theorem sub_len {α : Type} {xs : List α} {lo hi : Int} (h0 : 0 ≤ lo) (h1 : lo ≤ hi) (h2 : hi ≤ (xs.length : Int)) : (subL xs lo hi).length = (hi - lo).toNat := by
  simp only [subL, List.length_take, List.length_drop]
  omega

/-- A part of a row of owned elements. -/
theorem row_sub {Z : Nat → Prop} {w : World} {e : CK} {xs : List e.den} {v : Value} {fp : List Nat} {lo hi : Int} (h : Row Z w true e xs v fp) (h0 : 0 ≤ lo) (h1 : lo ≤ hi) (h2 : hi ≤ (xs.length : Int)) :
    ∃ ws gs, Cat (Has Z w true e) (subL xs lo hi) ws gs ∧ (∀ b ∈ gs, b ∈ fp) ∧ (fp.Nodup → gs.Nodup) ∧
      (lo = hi ∨ ∃ b0 o0 cap0, v = .slice (some ⟨b0, o0, none⟩) xs.length cap0 ∧ xs.length ≤ cap0 ∧ b0 ∈ fp ∧ (fp.Nodup → b0 ∉ gs) ∧ CellsAt w b0 (o0 + lo.toNat * e.size) ws ∧ OwnB w b0 (o0 + cap0 * e.size)) := by
  obtain ⟨A, cap, hv, hc, h⟩ := h
  have hsub : subL xs lo hi = (xs.drop lo.toNat).take (hi.toNat - lo.toNat) := by simp only [subL]; congr 1; omega
  rcases h with ⟨hx, hfp, hA, hcap⟩ | ⟨b, off, vs, fs, rfl, k1, k2, rfl, k4⟩
  · subst hx
    simp at h2
    have e0 : subL ([] : List e.den) lo hi = [] := subL_nil lo hi
    exact ⟨[], [], by rw [e0]; exact ⟨rfl, rfl⟩, by simp, by simp, .inl (by omega)⟩
  · obtain ⟨u1, um, u2, f1, fm, f2, rfl, rfl, c1, c2, c3⟩ := Cat.cut3 k2 (l := lo.toNat) (r := hi.toNat) (by omega)
    have hl1 : u1.length = lo.toNat * e.size := by rw [Cat.len (fun _ _ _ h => Has.len h) c1, List.length_take, Nat.min_eq_left (by omega)]
    refine ⟨um, fm, by rw [hsub]; exact c2, fun k hk => by simp [hk], fun hnd => ?_, .inr ⟨b, off, cap, hv, hc, by simp, fun hnd hb => ?_, ?_, k4⟩⟩
    · simp only [List.nodup_cons, List.nodup_append] at hnd
      exact hnd.2.2.1.1
    · simp only [List.nodup_cons, List.mem_append, not_or] at hnd
      exact hnd.1.2.1 hb
    · rw [← hl1]
      exact (CellsAt.append.1 (CellsAt.append.1 k1).2).1

/-- Two parts, the one behind the other. -/
theorem row_two {Z : Nat → Prop} {w : World} {e : CK} {xs : List e.den} {v : Value} {fp : List Nat} {a b c d : Int} (hnd : fp.Nodup) (h : Row Z w true e xs v fp) (h0 : 0 ≤ a) (h1 : a ≤ b) (h2 : b ≤ c) (h3 : c ≤ d) (h4 : d ≤ (xs.length : Int)) :
    ∃ ws1 gs1 ws2 gs2, Cat (Has Z w true e) (subL xs a b) ws1 gs1 ∧ Cat (Has Z w true e) (subL xs c d) ws2 gs2 ∧ (∀ k ∈ gs1 ++ gs2, k ∈ fp) ∧ (gs1 ++ gs2).Nodup ∧
      ((a = b ∧ c = d) ∨ ∃ b0 o0 cap0, v = .slice (some ⟨b0, o0, none⟩) xs.length cap0 ∧ xs.length ≤ cap0 ∧ b0 ∈ fp ∧ b0 ∉ gs1 ++ gs2 ∧ CellsAt w b0 (o0 + a.toNat * e.size) ws1 ∧ CellsAt w b0 (o0 + c.toNat * e.size) ws2 ∧ OwnB w b0 (o0 + cap0 * e.size)) := by
  obtain ⟨A, cap, hv, hc, h⟩ := h
  have hs1 : subL xs a b = (xs.drop a.toNat).take (b.toNat - a.toNat) := by simp only [subL]; congr 1; omega
  have hs2 : subL xs c d = (xs.drop c.toNat).take (d.toNat - c.toNat) := by simp only [subL]; congr 1; omega
  rcases h with ⟨hx, hfp, hA, hcap⟩ | ⟨bk, off, vs, fs, rfl, k1, k2, rfl, k4⟩
  · subst hx
    simp at h4
    refine ⟨[], [], [], [], by rw [subL_nil]; exact ⟨rfl, rfl⟩, by rw [subL_nil]; exact ⟨rfl, rfl⟩, by simp, by simp, .inl ⟨by omega, by omega⟩⟩
  · obtain ⟨u1, u2, u3, f1, f2, f3, rfl, rfl, c1, c2, c3⟩ := Cat.cut3 k2 (l := c.toNat) (r := d.toNat) (by omega)
    obtain ⟨v1, v2, v3, g1, g2, g3, rfl, rfl, d1, d2, d3⟩ := Cat.cut3 c1 (l := a.toNat) (r := b.toNat) (by omega)
    have hm : ((xs.take c.toNat).drop a.toNat).take (b.toNat - a.toNat) = (xs.drop a.toNat).take (b.toNat - a.toNat) := by
      rw [List.drop_take, List.take_take]
      congr 1
      omega
    rw [hm] at d2
    have hl1 : v1.length = a.toNat * e.size := by rw [Cat.len (fun _ _ _ h => Has.len h) d1, List.take_take, List.length_take, Nat.min_eq_left (by omega), Nat.min_eq_left (by omega)]
    have hl2 : (v1 ++ (v2 ++ v3)).length = c.toNat * e.size := by rw [Cat.len (fun _ _ _ h => Has.len h) c1, List.length_take, Nat.min_eq_left (by omega)]
    simp only [List.nodup_cons, List.nodup_append, List.mem_append, not_or] at hnd
    refine ⟨v2, g2, u2, f2, by rw [hs1]; exact d2, by rw [hs2]; exact c2, fun k hk => ?_, ?_, .inr ⟨bk, off, cap, hv, hc, by simp, ?_, ?_, ?_, k4⟩⟩
    · rcases List.mem_append.1 hk with hk | hk <;> simp [hk]
    · exact List.nodup_append.2 ⟨hnd.2.1.2.1.1, hnd.2.2.1.1, fun x hx y hy => hnd.2.2.2 x (.inr (.inl hx)) y (.inl hy)⟩
    · rw [List.mem_append, not_or]
      exact ⟨hnd.1.1.2.1, hnd.1.2.1⟩
    · rw [← hl1]
      exact (CellsAt.append.1 (CellsAt.append.1 (CellsAt.append.1 k1).1).2).1
    · rw [← hl2]
      exact (CellsAt.append.1 (CellsAt.append.1 k1).2).1

section
variable {P : Program} {F : Fx} {σ : St} {a : Act} {w : World} {g : Gh} {R : Type} {tt : List (Nat × TD)} {env : List Ct} {k : Nat} {o : Oper} {H : Nat → RE} {K : Upd → Option R} {y : R}

/-- append, whatever is then said of the new row. -/
theorem goal_append_g (htt : TTok P tt) (r : Rl F σ a w g) (hH : HOk H σ.h o.dst) (hn : NwOk F o) {x z : Operand} {t t' : TypeId} (ho : o.op = .call { callee := .builtin .append, args := #[x, z], argTypes := #[t, t'] })
    {e e' : CK} {bb : Nat} (he : elemT tt t = some e) (hbb : ebytes tt t = some bb) (he' : elemT tt t' = some e') {nx ny : Nat} (hfits : fits (nx + ny) bb = true)
    {T : List Nat} (hT : ∀ id ∈ T, H id = σ.h id) {A A' : Option Addr} {cap cap' : Nat} {vs ws : List Value} {fs : List Nat} {c : RC}
    (hx : a.eval x = .slice A nx cap) (hle : nx ≤ cap) (hy : a.eval z = .slice A' ny cap')
    (hA : (A = none ∧ nx = 0 ∧ cap = 0) ∨ ∃ b off, A = some ⟨b, off, none⟩ ∧ CellsAt w b off vs ∧ OwnB w b (off + cap * e.size) ∧ ∃ i ∈ T, b ∈ g.fp i)
    (hA' : ny = 0 ∨ ∃ b off, A' = some ⟨b, off, none⟩ ∧ CellsAt w b off ws)
    (hl1 : vs.length = nx * e.size) (hl2 : ws.length = ny * e.size) (h1 : ∀ u ∈ ws, u.oneCell' = true)
    (hfs : ∀ b ∈ fs, (∃ i ∈ T, b ∈ g.fp i) ∧ ∀ off, A ≠ some ⟨b, off, none⟩) (hnd : fs.Nodup) (hfs0 : nx = 0 → ny = 0 → fs = [])
    (hrr : ∀ (w' : World) (h' : Nat → RE) (g' : Gh) (v' : Value) (fpn : List Nat), g'.Z = g.Z → Ext g w σ.h g' w' h' →
      ((v' = .slice none 0 0 ∧ fpn = [] ∧ nx = 0 ∧ ny = 0) ∨ ∃ b off cap2, v' = .slice (some ⟨b, off, none⟩) (nx + ny) cap2 ∧ nx + ny ≤ cap2 ∧ CellsAt w' b off (vs ++ ws) ∧ OwnB w' b (off + cap2 * e.size) ∧ fpn = b :: fs ∧ ∀ k ∈ fs, w'.heap[k]? = w.heap[k]?) →
      RR g' w' h' ⟨(σ.h (nid o.dst 0)).inc + 1, 0, c⟩ v' fpn)
    (hK : K ⟨.one (.row (nid o.dst 0) ((H (nid o.dst 0)).inc + 1) 0 []), (nid o.dst 0, ⟨(H (nid o.dst 0)).inc + 1, 0, c⟩) :: dead H T⟩ = some y) : Goal P F σ a w g o K y := by
  obtain ⟨ff, hl⟩ := ebytes_some hbb he
  obtain ⟨et, i, zz, e1, e2, e3, e4, e5, e6, e7, e8⟩ := elem_facts htt hl
  obtain ⟨b', fs', hl'⟩ := elemT_some he'
  obtain ⟨et', i', zz', p1, _⟩ := elem_facts htt hl'
  simp only [fits, Bool.and_eq_true, decide_eq_true_eq, Nat.blt_eq] at hfits
  obtain ⟨v', w', hrun, os, tp, ou, sz, hend⟩ := run_append_gen (P := P) (w := w) (t := t) (t' := t') (ty := o.type) e1 p1 e3 e6 e5 (by rw [e7]; simpa using e8) e2 (A := A) (n := nx) (cap := cap) (olds := vs) hl1 hle
    (by
      rcases hA with h | ⟨b, off, h1, h2, h3, _⟩
      · exact .inl h
      · exact .inr ⟨b, off, h1, h2, h3⟩)
    (A' := A') (m := ny) (cap' := cap') (news := ws) hl2 hA' h1 (by rw [e4]; exact hfits.1) (by rw [e4]; exact hfits.2)
  have hexec : (execOp a.eval o).run P w = .ok (.value v') w' := by
    unfold execOp
    rw [ho]
    simp [resolve, invoke, builtin, hx, hy, hrun]
  have hm0 := hH.n 0 (by omega)
  have fin : ∀ (fpn : List Nat), v'.oneCell' = true → fpn.Nodup → (∀ b ∈ fpn, ¬ g.Z b ∧ (w.heap.size ≤ b ∨ ∃ i ∈ T, b ∈ g.fp i)) → (∀ b, b < w.heap.size → (∀ i ∈ T, b ∉ g.fp i) → w'.heap[b]? = w.heap[b]?) →
      (∀ (h' : Nat → RE) (g' : Gh), g'.Z = g.Z → Ext g w σ.h g' w' h' → RR g' w' h' ⟨(σ.h (nid o.dst 0)).inc + 1, 0, c⟩ v' fpn) → Goal P F σ a w g o K y := by
    intro fpn hone h1 h2 h3 h4
    obtain ⟨g', r', hZ', hloc, _⟩ := Rl.make (H := H) (m := nid o.dst 0) (T := T) (c := c) (v := v') (fp := fpn) (w' := w') (Z' := g.Z) r hm0 (fun p hp => hn p hp 0 (by omega)) hT (fun _ h => h) (fun _ h => .inl h) os tp ou sz h3 h1 h2 h4
    refine ⟨_, hK, OpPost.value hexec ⟨g', r', ?_⟩⟩
    have hh : setH σ.h ((nid o.dst 0, ⟨(H (nid o.dst 0)).inc + 1, 0, c⟩) :: dead H T) (nid o.dst 0) = ⟨(H (nid o.dst 0)).inc + 1, 0, c⟩ := by rw [setH_cons, if_pos rfl]
    refine ⟨⟨?_, ?_, hone⟩, fun d' e' hc _ => ?_⟩
    · show (H (nid o.dst 0)).inc + 1 ≤ (setH σ.h ((nid o.dst 0, ⟨(H (nid o.dst 0)).inc + 1, 0, c⟩) :: dead H T) (nid o.dst 0)).inc
      rw [hh]
      exact Nat.le_refl _
    · intro _; exact Nat.zero_le _
    · show v' = g'.loc (nid o.dst 0)
      rw [hloc]
  rcases hend with ⟨a1, a2, a3, rfl, rfl⟩ | ⟨b, off, cap2, rfl, hle2, hc2, hown2, hb2, hfr⟩
  · exact fin [] rfl (by simp) (by simp) (fun _ _ _ => rfl) (fun h' g' hz hx => hrr _ h' g' _ [] hz hx (.inl ⟨rfl, rfl, a3, a2⟩))
  · have hkeep : ∀ k, k < w.heap.size → (∀ off, A ≠ some ⟨k, off, none⟩) → w'.heap[k]? = w.heap[k]? := fun k hk hne => hfr k hk (fun off e => hne off e)
    have hAfp : ∀ k off, A = some ⟨k, off, none⟩ → ∃ i ∈ T, k ∈ g.fp i := by
      intro k off e
      rcases hA with ⟨h, _⟩ | ⟨b, off', h, _, _, hid⟩
      · rw [e] at h; cases h
      · rw [e] at h; cases h; exact hid
    refine fin (b :: fs) rfl ?_ ?_ ?_ (fun h' g' hz hx => hrr _ h' g' _ _ hz hx (.inr ⟨b, off, cap2, rfl, hle2, hc2, hown2, rfl, fun k hk => ?_⟩))
    · refine List.nodup_cons.2 ⟨fun hb => ?_, hnd⟩
      obtain ⟨⟨id, h1, h2⟩, h3⟩ := hfs b hb
      rcases hb2 with h | h
      · exact h3 off h
      · have := (r.rt id).lt b h2; omega
    · intro k hk
      rcases List.mem_cons.1 hk with rfl | hk
      · rcases hb2 with h | h
        · obtain ⟨id, h1, h2⟩ := hAfp k off h
          exact ⟨(r.sp id k h2).1, .inr ⟨id, h1, h2⟩⟩
        · exact ⟨fun hz => by have := r.zl k hz; omega, .inl (by omega)⟩
      · obtain ⟨⟨id, h1, h2⟩, _⟩ := hfs k hk
        exact ⟨(r.sp id k h2).1, .inr ⟨id, h1, h2⟩⟩
    · intro k hk hne
      refine hkeep k hk (fun off e => ?_)
      obtain ⟨id, h1, h2⟩ := hAfp k off e
      exact hne id h1 h2
    · obtain ⟨⟨id, h1, h2⟩, h3⟩ := hfs k hk
      exact hkeep k ((r.rt id).lt k h2) h3

theorem sub_of (hH : HOk H σ.h o.dst) {id inc ver : Nat} {lo hi : Int} {u : Value} (hu : CVr g w σ.h (.rsub id inc ver [] lo hi) u) {d : Bool} {e : CK} (hk : (σ.h id).c.kd = some (d, e)) (hi' : inc = (σ.h id).inc) :
    SubV e.size (g.loc id) lo hi u := by
  obtain ⟨v', e', n1, n2, n3⟩ := hu.2 d e hk ⟨hi', .inl rfl⟩
  simp only [kindRow, Option.some.injEq] at n1
  subst n1
  have : v' = g.loc id := n2
  rw [this] at n3
  exact n3

theorem appMove_sound (htt : TTok P tt) (r : Rl F σ a w g) (hH : HOk H σ.h o.dst) (hn : NwOk F o) {p q : Operand} {t t' : TypeId} (ho : o.op = .call { callee := .builtin .append, args := #[p, q], argTypes := #[t, t'] })
    {e e' : CK} {bb : Nat} (he : elemT tt t = some e) (hbb : ebytes tt t = some bb) (he' : elemT tt t' = some e') {id inc ver : Nat} {lo hi : Int} {v1 : CV} (hp : CVr g w σ.h v1 (a.eval p)) (hq : CVr g w σ.h (.rsub id inc ver [] lo hi) (a.eval q))
    (h : appMove o H K e bb v1 id inc lo hi = some y) : Goal P F σ a w g o K y := by
  unfold appMove at h
  simp only at h
  split at h
  · cases h
  rename_i hns
  split at h
  · cases h
  rename_i xs xi hxi
  cases hbm : (memB xi id || Nat.beq (nid o.dst 0) id) with
  | true => rw [hbm] at h; cases h
  | false =>
  rw [hbm] at h
  simp only [cond_false] at h
  replace h := cond_some h
  obtain ⟨hdx, h⟩ := h
  rw [Bool.or_eq_false_iff] at hbm
  have hxid := memB_mem hbm.1
  have hmid := beq_ff hbm.2
  obtain ⟨A, cap, vs, fs, hs, hA⟩ := x_src r hH hxi (fun e' ys => by intro h; exact hns e' ys h) hp
  rw [hdx] at hs
  have hl1 : vs.length = xs.length * e.size := Cat.len (fun _ _ _ h => Has.len h) hs.cat
  split at h
  case h_2 => cases h
  rename_i i0 v0 e0 xs0 hid
  replace h := cond_some h
  obtain ⟨hb1, h⟩ := h
  have hb1 := Nat.eq_of_beq_eq_true hb1
  subst hb1
  split at h
  case isFalse => cases h
  rename_i hee
  subst hee
  simp only [castL_id] at h
  obtain ⟨hfits, hK⟩ := grd_some h
  have hsid : σ.h id = ⟨i0, v0, .row true e0 xs0⟩ := by rw [← hH.c id (by rw [hid]; simp), hid]
  have hsub := sub_of hH hq (d := true) (e := e0) (by rw [hsid]; rfl) (by rw [hsid])
  have hrow := r.rt id
  unfold RR at hrow
  rw [hsid] at hrow
  simp only at hrow
  obtain ⟨s0, s1, A0, len0, cap0, s2, s3, s4⟩ := hsub
  have hlen : len0 = xs0.length := by
    obtain ⟨A, cap', hv, _⟩ := hrow
    rw [s2] at hv
    cases hv
    rfl
  subst hlen
  obtain ⟨ws, gs, q3, q5, q7, q8⟩ := row_sub hrow s0 s1 s3
  have hsl := sub_len (xs := xs0) s0 s1 s3
  have hwl : ws.length = (subL xs0 lo hi).length * e0.size := Cat.len (fun _ _ _ h => Has.len h) q3
  have hw0 : lo = hi → ws = [] := fun e => by
    have : ws.length = 0 := by rw [hwl, hsl, e]; simp
    exact List.length_eq_zero_iff.1 this
  have hAT : (A = none ∧ xs.length = 0 ∧ cap = 0) ∨ ∃ b off, A = some ⟨b, off, none⟩ ∧ CellsAt w b off vs ∧ OwnB w b (off + cap * e0.size) ∧ ∃ i ∈ xi, b ∈ g.fp i := by
    rcases hA with ⟨h1, h2, h3, _⟩ | ⟨b, off, i, rfl, h1, h2, h3, h4⟩
    · exact .inl ⟨h1, by rw [h2]; rfl, h3⟩
    · exact .inr ⟨b, off, h1, h2, h3, i, by simp, by rw [h4]; simp⟩
  have hfsA : ∀ b ∈ fs, ∀ off, A ≠ some ⟨b, off, none⟩ := by
    intro b hb off e
    rcases hA with ⟨h, _⟩ | ⟨b0, off0, id0, rfl, h2, _, _, h5⟩
    · rw [e] at h; cases h
    · rw [e] at h2
      cases h2
      have := r.nd id0
      rw [h5] at this
      exact (List.nodup_cons.1 this).1 hb
  refine goal_append_g htt r hH hn ho he hbb he' (nx := xs.length) (ny := (subL xs0 lo hi).length) hfits (T := xi) hs.same (A := A) (cap := cap) (vs := vs) (ws := ws) (fs := fs) hs.v hs.le
    (A' := if cap0 = lo.toNat then A0 else A0.map (·.add (lo.toNat * e0.size))) (cap' := cap0 - lo.toNat) (by rw [s4, hsl]; congr 1; omega) hAT ?_ hl1 hwl (Cat.one_cells (fun _ _ _ h => Has.one h) q3) (fun b hb => ?_) hs.nd ?_ ?_ hK
  · rcases q8 with h | ⟨b0, o0, c0, h1, h2, h3, h4, h5, h6⟩
    · left; rw [hsl, h]; simp
    · rw [s2] at h1
      cases h1
      obtain ⟨o', ho', hne, heq⟩ := sub_addr b0 o0 cap0 lo.toNat e0.size
      by_cases hcl : cap0 = lo.toNat
      · left; rw [hsl]; omega
      · right
        exact ⟨b0, o', ho', by rw [hne hcl]; exact h5⟩
  · obtain ⟨i, h1, h2⟩ := hs.fp b hb
    exact ⟨⟨i, h1, h2⟩, hfsA b hb⟩
  · intro hx0 hy0
    have : xs = [] := List.length_eq_zero_iff.1 hx0
    subst this
    exact hs.cat.2
  · intro w' h' g' v' fpn hz hext hsh
    show LoanR g' w' h' e0 xs [] id i0 v0 lo hi v' fpn
    have hZk : ∀ b, g.Z b → w'.heap[b]? = w.heap[b]? := hext.z
    refine ⟨?_, s0, s1, ?_⟩
    · rcases hext.id id with hlt | ⟨h1, h2, _⟩
      · rw [hsid] at hlt
        have hlt : i0 < (h' id).inc := hlt
        exact ⟨by omega, fun e => by omega⟩
      · rw [hsid] at h1 h2
        have h1 : (h' id).inc = i0 := h1
        have h2 : v0 ≤ (h' id).ver := h2
        exact ⟨by omega, fun _ => h2⟩
    · rcases hsh with ⟨h1, h2, h3, h4⟩ | ⟨b, off, cap2, h1, h2, h3, h4, h5, h6⟩
      · refine .inl ⟨h1, List.length_eq_zero_iff.1 h3, rfl, ?_, h2⟩
        rw [hsl] at h4
        omega
      · rw [hsl] at h1 h2
        refine .inr ⟨b, off, cap2, vs, ws, [], fs, [], by simpa using h1, by simpa using h2, by simpa using h3, ?_, ⟨rfl, rfl⟩, by simpa using h5, h4, by rw [hwl, hsl], ?_⟩
        · rw [hz]
          exact hs.cat.frameZ hZk (fun _ h => h) h6
        · rcases q8 with h | ⟨b0, o0, c0, k1, k2, k3, k4, k5, k6⟩
          · exact .inl h
          · right
            intro e1 e2 e3
            rcases hext.id id with hlt | ⟨m1, m2, m3, m4, m5⟩
            · rw [hsid] at hlt
              have hlt : i0 < (h' id).inc := hlt
              omega
            · obtain ⟨_, ⟨n1, n2⟩, _⟩ := m5 (by rw [hsid]; exact e2.symm) e0 e3
              exact ⟨b0, o0, xs0.length, c0, by rw [m3]; exact k1, by rw [n1]; exact k3, s3, k5.frame (n2 b0 k3)⟩

/-- A loan, as a source: what lies there. -/
theorem loan_src (r : Rl F σ a w g) {mx : Nat} {i0 v0 : Nat} {e : CK} {as cs : List e.den} {id inc ver : Nat} {lo hi : Int} (hm : σ.h mx = ⟨i0, v0, .loan e as cs id inc ver lo hi⟩) {ix vx : Nat} (hix : i0 = ix) {u : Value} (hu : CVr g w σ.h (.row mx ix vx []) u) :
    u = g.loc mx ∧ LoanR g w σ.h e as cs id inc ver lo hi u (g.fp mx) := by
  have hloc : u = g.loc mx := hu.2 false e (by rw [hm]; rfl) ⟨by rw [hm]; exact hix.symm, .inl rfl⟩
  have := r.rt mx
  unfold RR at this
  rw [hm] at this
  exact ⟨hloc, by rw [hloc]; exact this⟩

theorem appLoan_sound (htt : TTok P tt) (r : Rl F σ a w g) (hH : HOk H σ.h o.dst) (hn : NwOk F o) {p q : Operand} {t t' : TypeId} (ho : o.op = .call { callee := .builtin .append, args := #[p, q], argTypes := #[t, t'] })
    {e e' : CK} {bb : Nat} (he : elemT tt t = some e) (hbb : ebytes tt t = some bb) (he' : elemT tt t' = some e') {mx ix vx : Nat} {v2 : CV} (hp : CVr g w σ.h (.row mx ix vx []) (a.eval p)) (hq : CVr g w σ.h v2 (a.eval q))
    (h : appLoan o H K e bb mx ix v2 = some y) : Goal P F σ a w g o K y := by
  unfold appLoan at h
  simp only at h
  split at h
  case h_2 => cases h
  rename_i i0 v0 e0 as cs id inc ver lo hi hid
  replace h := cond_some h
  obtain ⟨hb1, h⟩ := h
  have hb1 := Nat.eq_of_beq_eq_true hb1
  split at h
  case isFalse => cases h
  rename_i hee
  subst hee
  split at h
  case h_2 => cases h
  rename_i ys yi hyi
  simp only [castL_id] at h
  cases hbm : (memB yi mx || (memB yi id || (!dOfY H v2 || Nat.beq (nid o.dst 0) id)) || Nat.beq mx id) with
  | true => rw [hbm] at h; cases h
  | false =>
  rw [hbm] at h
  simp only [cond_false] at h
  obtain ⟨hfits, hK⟩ := grd_some h
  simp only [Bool.or_eq_false_iff] at hbm
  obtain ⟨⟨hy1, hy2, hdy, hmid⟩, hmxid⟩ := hbm
  have hy1 := memB_mem hy1
  have hy2 := memB_mem hy2
  have hmid := beq_ff hmid
  have hmxid := beq_ff hmxid
  have hdy : dOfY H v2 = true := by simpa using hdy
  have hsm : σ.h mx = ⟨i0, v0, .loan e0 as cs id inc ver lo hi⟩ := by rw [← hH.c mx (by rw [hid]; simp), hid]
  obtain ⟨hu, hl⟩ := loan_src r hsm hb1 hp
  obtain ⟨A', cap', ws, gs, hs'⟩ := y_src r hH hyi hq
  rw [hdy] at hs'
  obtain ⟨⟨l1, l2⟩, l3, l4, hl⟩ := hl
  have hT : ∀ i ∈ mx :: yi, H i = σ.h i := by
    intro i hi
    rcases List.mem_cons.1 hi with rfl | hi
    · rw [hid, hsm]
    · exact hs'.same i hi
  have hl2 : ws.length = ys.length * e0.size := Cat.len (fun _ _ _ h => Has.len h) hs'.cat
  have ho1 := Cat.one_cells (fun _ _ _ h => Has.one h) hs'.cat
  have hyd : ∀ b ∈ gs, b ∉ g.fp mx := by
    intro b hb hb2
    obtain ⟨i, h1, h2⟩ := hs'.fp b hb
    exact hy1 (r.dj mx i b hb2 h2 ▸ h1)
  have hys : ys.length = 0 ∨ ∃ b off, A' = some ⟨b, off, none⟩ ∧ CellsAt w b off ws := hs'.at_.imp (fun h => by rw [h]; rfl) (fun h => h)
  have mono : ∀ (h' : Nat → RE) (g' : Gh) (w' : World), Ext g w σ.h g' w' h' → inc ≤ (h' id).inc ∧ (inc = (h' id).inc → ver ≤ (h' id).ver) := by
    intro h' g' w' hext
    rcases hext.id id with hlt | ⟨h1, h2, _⟩
    · exact ⟨by omega, fun e => by omega⟩
    · exact ⟨by omega, fun e => by have := l2 (by omega); omega⟩
  rcases hl with ⟨n1, n2, n3, n4, n5⟩ | ⟨b, ob, cap, ua, um, uc, fa, fc, n1, n2, n3, n4, n5, n6, n7, n8, n9⟩
  · subst n2 n3 n4
    have hfits : fits (0 + ys.length) bb = true := by simpa using hfits
    refine goal_append_g htt r hH hn ho he hbb he' (nx := 0) (ny := ys.length) hfits (T := mx :: yi) hT (A := none) (cap := 0) (vs := []) (ws := ws) (fs := gs) n1 (Nat.le_refl _) hs'.v (.inl ⟨rfl, rfl, rfl⟩) hys (by simp) hl2 ho1
      (fun b hb => ?_) hs'.nd ?_ ?_ hK
    · obtain ⟨i, h1, h2⟩ := hs'.fp b hb
      exact ⟨⟨i, by simp [h1], h2⟩, fun off e => by cases e⟩
    · intro _ hy0
      have : ys = [] := List.length_eq_zero_iff.1 hy0
      subst this
      exact hs'.cat.2
    · intro w' h' g' v' fpn hz hext hsh
      show LoanR g' w' h' e0 [] ([] ++ ys) id inc ver lo lo v' fpn
      refine ⟨mono h' g' w' hext, l3, Int.le_refl _, ?_⟩
      rcases hsh with ⟨h1, h2, h3, h4⟩ | ⟨b, off, cap2, h1, h2, h3, h4, h5, h6⟩
      · exact .inl ⟨h1, rfl, by simpa using List.length_eq_zero_iff.1 h4, rfl, h2⟩
      · refine .inr ⟨b, off, cap2, [], [], ws, [], gs, by simpa using h1, by simpa using h2, by simpa using h3, ⟨rfl, rfl⟩, ?_, by simpa using h5, h4, by simp, .inl rfl⟩
        rw [hz, List.nil_append]
        exact hs'.cat.frameZ hext.z (fun _ h => h) h6
  · have hnd := r.nd mx
    rw [n6] at hnd
    simp only [List.nodup_cons, List.nodup_append, List.mem_append, not_or] at hnd
    have hlen : (ua ++ (um ++ uc)).length = (as.length + (hi - lo).toNat + cs.length) * e0.size := by
      have k1 := Cat.len (fun _ _ _ h => Has.len h) n4
      have k2 := Cat.len (fun _ _ _ h => Has.len h) n5
      simp only [List.length_append, k1, k2, n8, Nat.add_mul]
      omega
    refine goal_append_g htt r hH hn ho he hbb he' (nx := as.length + (hi - lo).toNat + cs.length) (ny := ys.length) hfits (T := mx :: yi) hT (A := some ⟨b, ob, none⟩) (cap := cap) (vs := ua ++ (um ++ uc)) (ws := ws) (fs := fa ++ (fc ++ gs)) n1 n2 hs'.v
      (.inr ⟨b, ob, rfl, n3, n7, mx, by simp, by rw [n6]; simp⟩) hys hlen hl2 ho1 (fun k hk => ?_) ?_ ?_ ?_ hK
    · simp only [List.mem_append] at hk
      rcases hk with hk | hk | hk
      · exact ⟨⟨mx, by simp, by rw [n6]; simp [hk]⟩, fun off e => by cases e; exact hnd.1.1 hk⟩
      · exact ⟨⟨mx, by simp, by rw [n6]; simp [hk]⟩, fun off e => by cases e; exact hnd.1.2 hk⟩
      · obtain ⟨i, h1, h2⟩ := hs'.fp k hk
        have hne := hyd k hk
        exact ⟨⟨i, by simp [h1], h2⟩, fun off e => by cases e; exact hne (by rw [n6]; simp)⟩
    · refine List.nodup_append.2 ⟨hnd.2.1, List.nodup_append.2 ⟨hnd.2.2.1, hs'.nd, ?_⟩, ?_⟩
      · rintro k h1 k' h2 rfl
        exact hyd k h2 (by rw [n6]; simp [h1])
      · rintro k h1 k' h2 rfl
        rcases List.mem_append.1 h2 with h2 | h2
        · exact hnd.2.2.2 k h1 k h2 rfl
        · exact hyd k h2 (by rw [n6]; simp [h1])
    · intro hx0 hy0
      have e1 : as = [] := List.length_eq_zero_iff.1 (by omega)
      have e2 : cs = [] := List.length_eq_zero_iff.1 (by omega)
      have e3 : ys = [] := List.length_eq_zero_iff.1 hy0
      subst e1 e2 e3
      rw [n4.2, n5.2, hs'.cat.2]
      rfl
    · intro w' h' g' v' fpn hz hext hsh
      show LoanR g' w' h' e0 as (cs ++ ys) id inc ver lo hi v' fpn
      refine ⟨mono h' g' w' hext, l3, l4, ?_⟩
      rcases hsh with ⟨h1, h2, h3, h4⟩ | ⟨b', off, cap2, h1, h2, h3, h4, h5, h6⟩
      · refine .inl ⟨h1, List.length_eq_zero_iff.1 (by omega), ?_, by omega, h2⟩
        rw [List.length_eq_zero_iff.1 h4, List.length_eq_zero_iff.1 (show cs.length = 0 by omega)]
        rfl
      · refine .inr ⟨b', off, cap2, ua, um, uc ++ ws, fa, fc ++ gs, ?_, ?_, ?_, ?_, ?_, h5, h4, n8, ?_⟩
        · rw [h1, List.length_append]; congr 1; omega
        · rw [List.length_append]; omega
        · simpa [List.append_assoc] using h3
        · rw [hz]
          exact n4.frameZ hext.z (fun _ h => h) (fun k hk => h6 k (by simp [hk]))
        · rw [hz]
          exact (n5.append hs'.cat).frameZ hext.z (fun _ h => h) (fun k hk => h6 k (by
            rcases List.mem_append.1 hk with hk | hk <;> simp [hk]))
        · rcases n9 with n9 | n9
          · exact .inl n9
          · right
            intro e1 e2 e3
            rcases hext.id id with hlt | ⟨m1, m2, m3, m4, m5⟩
            · omega
            · have := l2 (by omega)
              obtain ⟨k1, ⟨k2, k3⟩, _⟩ := m5 (by omega) e0 e3
              obtain ⟨b0, o0, len0, cap0, q1, q2, q3, q4⟩ := n9 (by omega) (by omega) k1
              exact ⟨b0, o0, len0, cap0, by rw [m3]; exact q1, by rw [k2]; exact q2, q3, q4.frame (k3 b0 q2)⟩

/-- What is lent, with what lends it: all owned. -/
theorem loan_full (r : Rl F σ a w g) {mx id : Nat} (hne : mx ≠ id) {i0 v0 : Nat} {e : CK} {as cs : List e.den} {inc ver : Nat} {lo hi : Int} (hm : σ.h mx = ⟨i0, v0, .loan e as cs id inc ver lo hi⟩) {ix vx : Nat} (hix : i0 = ix) {u : Value} (hu : CVr g w σ.h (.row mx ix vx []) u)
    {xs0 : List e.den} (hid : σ.h id = ⟨inc, ver, .row true e xs0⟩) {um' : List Value} {gm : List Nat} (hcat : Cat (Has g.Z w true e) (subL xs0 lo hi) um' gm) (hhi : hi ≤ (xs0.length : Int)) (hgm : ∀ k ∈ gm, k ∈ g.fp id) (hgmn : gm.Nodup)
    (hat : lo = hi ∨ ∃ b0 o0 cap0, g.loc id = .slice (some ⟨b0, o0, none⟩) xs0.length cap0 ∧ CellsAt w b0 (o0 + lo.toNat * e.size) um') :
    ∃ A cap vs fs, u = .slice A (as ++ (subL xs0 lo hi ++ cs)).length cap ∧ (as ++ (subL xs0 lo hi ++ cs)).length ≤ cap ∧ Cat (Has g.Z w true e) (as ++ (subL xs0 lo hi ++ cs)) vs fs ∧
      ((A = none ∧ as ++ (subL xs0 lo hi ++ cs) = [] ∧ cap = 0) ∨ ∃ b off, A = some ⟨b, off, none⟩ ∧ CellsAt w b off vs ∧ OwnB w b (off + cap * e.size) ∧ b ∈ g.fp mx) ∧
      (∀ k ∈ fs, (k ∈ gm ∨ k ∈ g.fp mx) ∧ ∀ off, A ≠ some ⟨k, off, none⟩) ∧ fs.Nodup := by
  obtain ⟨hloc, _, l3, l4, hl⟩ := loan_src r hm hix hu
  have hsl := sub_len (xs := xs0) l3 l4 hhi
  have hdis : ∀ k ∈ gm, k ∉ g.fp mx := fun k hk h2 => hne (r.dj mx id k h2 (hgm k hk))
  rcases hl with ⟨n1, n2, n3, n4, n5⟩ | ⟨b, ob, cap, ua, um, uc, fa, fc, n1, n2, n3, n4, n5, n6, n7, n8, n9⟩
  · subst n2 n3 n4
    have h0 : subL xs0 lo lo = [] := List.length_eq_zero_iff.1 (by rw [hsl]; simp)
    rw [h0]
    exact ⟨none, 0, [], [], n1, Nat.le_refl _, ⟨rfl, rfl⟩, .inl ⟨rfl, rfl, rfl⟩, by simp, by simp⟩
  · have hum : um = um' := by
      have hl2 : um'.length = (subL xs0 lo hi).length * e.size := Cat.len (fun _ _ _ h => Has.len h) hcat
      rcases n9 with h | h
      · have e1 : um.length = 0 := by rw [n8, h]; simp
        have e2 : um'.length = 0 := by rw [hl2, hsl, h]; simp
        rw [List.length_eq_zero_iff.1 e1, List.length_eq_zero_iff.1 e2]
      · rcases hat with h' | ⟨b0, o0, cap0, q1, q2⟩
        · have e1 : um.length = 0 := by rw [n8, h']; simp
          have e2 : um'.length = 0 := by rw [hl2, hsl, h']; simp
          rw [List.length_eq_zero_iff.1 e1, List.length_eq_zero_iff.1 e2]
        · obtain ⟨b1, o1, len1, cap1, m1, m2, m3, m4⟩ := h (by rw [hid]) (by rw [hid]) (by rw [hid]; rfl)
          rw [q1] at m1
          cases m1
          exact m4.uniq q2 (by rw [n8, hl2, hsl])
    subst hum
    have hnd := r.nd mx
    rw [n6] at hnd
    simp only [List.nodup_cons, List.nodup_append, List.mem_append, not_or] at hnd
    have hL : (as ++ (subL xs0 lo hi ++ cs)).length = as.length + (hi - lo).toNat + cs.length := by
      simp only [List.length_append, hsl]
      omega
    refine ⟨some ⟨b, ob, none⟩, cap, ua ++ (um ++ uc), fa ++ (gm ++ fc), by rw [n1, hL], by rw [hL]; exact n2, n4.append (hcat.append n5), .inr ⟨b, ob, rfl, n3, n7, by rw [n6]; simp⟩, fun k hk => ?_, ?_⟩
    · simp only [List.mem_append] at hk
      rcases hk with hk | hk | hk
      · exact ⟨.inr (by rw [n6]; simp [hk]), fun off e => by cases e; exact hnd.1.1 hk⟩
      · have := hdis k hk
        exact ⟨.inl hk, fun off e => by cases e; exact this (by rw [n6]; simp)⟩
      · exact ⟨.inr (by rw [n6]; simp [hk]), fun off e => by cases e; exact hnd.1.2 hk⟩
    · refine List.nodup_append.2 ⟨hnd.2.1, List.nodup_append.2 ⟨hgmn, hnd.2.2.1, ?_⟩, ?_⟩
      · rintro k h1 k' h2 rfl
        exact hdis k h1 (by rw [n6]; simp [h2])
      · rintro k h1 k' h2 rfl
        rcases List.mem_append.1 h2 with h2 | h2
        · exact hdis k h2 (by rw [n6]; simp [h1])
        · exact hnd.2.2.2 k h1 k h2 rfl

theorem appFin_sound (htt : TTok P tt) (r : Rl F σ a w g) (hH : HOk H σ.h o.dst) (hn : NwOk F o) {p q : Operand} {t t' : TypeId} (ho : o.op = .call { callee := .builtin .append, args := #[p, q], argTypes := #[t, t'] })
    {e e' : CK} {bb : Nat} (he : elemT tt t = some e) (hbb : ebytes tt t = some bb) (he' : elemT tt t' = some e') {mx ix vx id inc ver : Nat} {lo hi : Int} (hp : CVr g w σ.h (.row mx ix vx []) (a.eval p)) (hq : CVr g w σ.h (.rsub id inc ver [] lo hi) (a.eval q))
    (h : appFin o H K e bb mx ix id inc lo hi = some y) : Goal P F σ a w g o K y := by
  unfold appFin at h
  simp only at h
  split at h
  case h_2 => cases h
  rename_i i0 v0 e0 as cs id' inc' ver' lo0 hi0 i1 v1 e1 xs0 hmx hid
  replace h := cond_some h
  obtain ⟨hb, h⟩ := h
  simp only [Bool.and_eq_true] at hb
  obtain ⟨⟨hb1, hb2⟩, ⟨hb3, hb4⟩, hb5, hb6⟩ := hb
  have hb1 := Nat.eq_of_beq_eq_true hb1
  have hb2 := Nat.eq_of_beq_eq_true hb2
  have hb3 := Nat.eq_of_beq_eq_true hb3
  have hb4 := Nat.eq_of_beq_eq_true hb4
  have hb5 := Nat.eq_of_beq_eq_true hb5
  have hne := beq_ff (by simpa using hb6 : Nat.beq mx id = false)
  subst hb2 hb3 hb4 hb5
  split at h
  case isFalse => cases h
  rename_i hee
  subst hee
  split at h
  case isFalse => cases h
  rename_i hee
  subst hee
  simp only [castL_id] at h
  obtain ⟨hfits, hK⟩ := grd_some h
  rw [Bool.and_eq_true, decide_eq_true_eq] at hfits
  have hsm : σ.h mx = ⟨i0, v0, .loan e1 as cs id' i1 v1 lo0 hi0⟩ := by rw [← hH.c mx (by rw [hmx]; simp), hmx]
  have hsid : σ.h id' = ⟨i1, v1, .row true e1 xs0⟩ := by rw [← hH.c id' (by rw [hid]; simp), hid]
  have hsub := sub_of hH hq (d := true) (e := e1) (by rw [hsid]; rfl) (by rw [hsid])
  have hrow := r.rt id'
  unfold RR at hrow
  rw [hsid] at hrow
  simp only at hrow
  obtain ⟨s0, s1, A0, len0, cap0, s2, s3, s4⟩ := hsub
  have hlen : len0 = xs0.length := by
    obtain ⟨A, cap', hv, _⟩ := hrow
    rw [s2] at hv
    cases hv
    rfl
  subst hlen
  obtain ⟨_, _, l3, l4, _⟩ := loan_src r hsm hb1 hp
  obtain ⟨ws1, gs1, ws2, gs2, c1, c2, c3, c4, c5⟩ := row_two (r.nd id') hrow l3 l4 hfits.1 s1 s3
  obtain ⟨A, cap, vs, fs, f1, f2, f3, f4, f5, f6⟩ := loan_full r hne hsm hb1 hp hsid c1 (by omega) (fun k hk => c3 k (by simp [hk])) (List.nodup_append.1 c4).1 (c5.imp (fun h => h.1) (fun ⟨b0, o0, cp, h1, _, _, _, h2, _⟩ => ⟨b0, o0, cp, h1, h2⟩))
  have hsl := sub_len (xs := xs0) s0 s1 s3
  have hwl : ws2.length = (subL xs0 lo hi).length * e1.size := Cat.len (fun _ _ _ h => Has.len h) c2
  have hT : ∀ i ∈ [mx, id'], H i = σ.h i := by
    intro i hi
    simp only [List.mem_cons, List.not_mem_nil, or_false] at hi
    rcases hi with rfl | rfl
    · rw [hmx, hsm]
    · rw [hid, hsid]
  have hdis : ∀ k, k ∈ g.fp mx → k ∉ g.fp id' := fun k h1 h2 => hne (r.dj mx id' k h1 h2)
  have hAm : ∀ k off, A = some ⟨k, off, none⟩ → k ∈ g.fp mx := by
    intro k off e
    rcases f4 with ⟨h, _⟩ | ⟨b, off', h, _, _, h4⟩
    · rw [e] at h; cases h
    · rw [e] at h; cases h; exact h4
  refine goal_append htt r hH hn ho he hbb he' hfits.2 hT f1 f2 (A' := if cap0 = lo.toNat then A0 else A0.map (·.add (lo.toNat * e1.size))) (cap' := cap0 - lo.toNat) (by rw [s4, hsl]; congr 1; omega) ?_ ?_ (Cat.len (fun _ _ _ h => Has.len h) f3) hwl (Cat.one_cells (fun _ _ _ h => Has.one h) c2)
    (Z' := g.Z) (fs := fs ++ gs2) (f3.append c2) (fun _ h => h) (fun _ h => .inl h) (fun k hk => ?_) ?_ hK
  · rcases f4 with h1 | ⟨b, off, h1, h2, h3, h4⟩
    · exact .inl h1
    · exact .inr ⟨b, off, h1, h2, h3, mx, by simp, h4⟩
  · rcases c5 with h | ⟨b0, o0, c0, h1, h2, h3, h4, h5, h6, h7⟩
    · left; exact List.length_eq_zero_iff.1 (by rw [hsl, h.2]; simp)
    · rw [s2] at h1
      cases h1
      obtain ⟨o', ho', hne', heq⟩ := sub_addr b0 o0 cap0 lo.toNat e1.size
      by_cases hcl : cap0 = lo.toNat
      · left; exact List.length_eq_zero_iff.1 (by rw [hsl]; omega)
      · right
        exact ⟨b0, o', ho', by rw [hne' hcl]; exact h6⟩
  · rcases List.mem_append.1 hk with hk | hk
    · obtain ⟨h1, h2⟩ := f5 k hk
      rcases h1 with h1 | h1
      · have := c3 k (by simp [h1])
        exact ⟨(r.sp id' k this).1, ⟨id', by simp, this⟩, h2⟩
      · exact ⟨(r.sp mx k h1).1, ⟨mx, by simp, h1⟩, h2⟩
    · have := c3 k (by simp [hk])
      exact ⟨(r.sp id' k this).1, ⟨id', by simp, this⟩, fun off e => hdis k (hAm k off e) this⟩
  · refine List.nodup_append.2 ⟨f6, (List.nodup_append.1 c4).2.1, ?_⟩
    rintro k h1 k' h2 rfl
    rcases (f5 k h1).1 with h3 | h3
    · exact (List.nodup_append.1 c4).2.2 k h3 k h2 rfl
    · exact hdis k h3 (c3 k (by simp [h2]))

theorem appPart_sound (htt : TTok P tt) (r : Rl F σ a w g) (hH : HOk H σ.h o.dst) (hn : NwOk F o) {p q : Operand} {t t' : TypeId} (ho : o.op = .call { callee := .builtin .append, args := #[p, q], argTypes := #[t, t'] })
    {e e' : CK} {bb : Nat} (he : elemT tt t = some e) (hbb : ebytes tt t = some bb) (he' : elemT tt t' = some e') {my iy vy id inc ver : Nat} {lo hi : Int} (hp : CVr g w σ.h (.rsub id inc ver [] lo hi) (a.eval p)) (hq : CVr g w σ.h (.row my iy vy []) (a.eval q))
    (h : appPart o H K e bb id inc lo hi my iy = some y) : Goal P F σ a w g o K y := by
  unfold appPart at h
  simp only at h
  split at h
  case h_2 => cases h
  rename_i i0 v0 e0 as cs id' inc' ver' lo0 hi0 i1 v1 e1 xs0 hmx hid
  replace h := cond_some h
  obtain ⟨hb, h⟩ := h
  simp only [Bool.and_eq_true] at hb
  obtain ⟨⟨hb1, hb2⟩, ⟨hb3, hb4⟩, hb5, hb6⟩ := hb
  have hb1 := Nat.eq_of_beq_eq_true hb1
  have hb2 := Nat.eq_of_beq_eq_true hb2
  have hb3 := Nat.eq_of_beq_eq_true hb3
  have hb4 := Nat.eq_of_beq_eq_true hb4
  have hb5 := Nat.eq_of_beq_eq_true hb5
  have hne := beq_ff (by simpa using hb6 : Nat.beq my id = false)
  subst hb2 hb3 hb4 hb5
  split at h
  case isFalse => cases h
  rename_i hee
  subst hee
  split at h
  case isFalse => cases h
  rename_i hee
  subst hee
  simp only [castL_id] at h
  obtain ⟨hfits, hK⟩ := grd_some h
  rw [Bool.and_eq_true, decide_eq_true_eq] at hfits
  have hsm : σ.h my = ⟨i0, v0, .loan e1 as cs id' i1 v1 lo0 hi0⟩ := by rw [← hH.c my (by rw [hmx]; simp), hmx]
  have hsid : σ.h id' = ⟨i1, v1, .row true e1 xs0⟩ := by rw [← hH.c id' (by rw [hid]; simp), hid]
  have hsub := sub_of hH hp (d := true) (e := e1) (by rw [hsid]; rfl) (by rw [hsid])
  have hrow := r.rt id'
  unfold RR at hrow
  rw [hsid] at hrow
  simp only at hrow
  obtain ⟨s0, s1, A0, len0, cap0, s2, s3, s4⟩ := hsub
  have hlen : len0 = xs0.length := by
    obtain ⟨A, cap', hv, _⟩ := hrow
    rw [s2] at hv
    cases hv
    rfl
  subst hlen
  have hcap : xs0.length ≤ cap0 := by
    obtain ⟨A, cap', hv, hc, _⟩ := hrow
    rw [s2] at hv
    cases hv
    exact hc
  obtain ⟨_, _, l3, l4, hll⟩ := loan_src r hsm hb1 hq
  obtain ⟨hf1, hfits⟩ := hfits
  rw [Bool.and_eq_true, decide_eq_true_eq] at hfits
  obtain ⟨hhi, hfits⟩ := hfits
  obtain ⟨ws1, gs1, ws2, gs2, c1, c2, c3, c4, c5⟩ := row_two (r.nd id') hrow s0 s1 hf1 l4 hhi
  obtain ⟨A, cap, vs, fs, f1, f2, f3, f4, f5, f6⟩ := loan_full r hne hsm hb1 hq hsid c2 hhi (fun k hk => c3 k (by simp [hk])) (List.nodup_append.1 c4).2.1 (c5.imp (fun h => h.2) (fun ⟨b0, o0, cp, h1, _, _, _, _, h2, _⟩ => ⟨b0, o0, cp, h1, h2⟩))
  have hsl := sub_len (xs := xs0) s0 s1 s3
  have hwl : ws1.length = (subL xs0 lo hi).length * e1.size := Cat.len (fun _ _ _ h => Has.len h) c1
  have hT : ∀ i ∈ [id', my], H i = σ.h i := by
    intro i hi
    simp only [List.mem_cons, List.not_mem_nil, or_false] at hi
    rcases hi with rfl | rfl
    · rw [hid, hsid]
    · rw [hmx, hsm]
  have hdis : ∀ k, k ∈ g.fp my → k ∉ g.fp id' := fun k h1 h2 => hne (r.dj my id' k h1 h2)
  have hAx : ∀ k off, (if cap0 = lo.toNat then A0 else A0.map (·.add (lo.toNat * e1.size))) = some ⟨k, off, none⟩ → (lo = hi ∧ lo0 = hi0) ∨ (k ∈ g.fp id' ∧ k ∉ gs1 ++ gs2) := by
    intro k off e
    rcases c5 with h | ⟨b0, o0, c0, h1, h2, h3, h4, h5, h6, h7⟩
    · exact .inl h
    · rw [s2] at h1
      cases h1
      obtain ⟨o', ho', _⟩ := sub_addr b0 o0 cap0 lo.toNat e1.size
      rw [ho'] at e
      cases e
      exact .inr ⟨h3, h4⟩
  have hx1 : ∀ k, k ∈ gs1 → ∀ off, (if cap0 = lo.toNat then A0 else A0.map (·.add (lo.toNat * e1.size))) ≠ some ⟨k, off, none⟩ := by
    intro k hk off e
    rcases hAx k off e with h | h
    · have : subL xs0 lo hi = [] := List.length_eq_zero_iff.1 (by rw [hsl, h.1]; simp)
      rw [this] at c1
      rw [c1.2] at hk
      simp at hk
    · exact h.2 (by simp [hk])
  have hrw : ∀ k off, (if cap0 = lo.toNat then A0 else A0.map (·.add (lo.toNat * e1.size))) = some ⟨k, off, none⟩ → k ∈ g.fp id' := by
    intro k off e
    obtain ⟨A1, cap1, hv, hc1, hm⟩ := hrow
    rw [s2] at hv
    cases hv
    rcases hm with ⟨_, _, h3, h4⟩ | ⟨b, off', vs', fs', h1, h2, h3, h4, h5⟩
    · rw [h3] at e
      split at e <;> cases e
    · rw [h1] at e
      obtain ⟨o', ho', _⟩ := sub_addr b off' cap0 lo.toNat e1.size
      rw [ho'] at e
      cases e
      rw [h4]
      simp
  refine goal_append htt r hH hn ho he hbb he' hfits hT (A := if cap0 = lo.toNat then A0 else A0.map (·.add (lo.toNat * e1.size))) (cap := cap0 - lo.toNat) (by rw [s4, hsl]; congr 1; omega) (by rw [hsl]; omega) f1 ?_ ?_ hwl (Cat.len (fun _ _ _ h => Has.len h) f3) (Cat.one_cells (fun _ _ _ h => Has.one h) f3)
    (Z' := g.Z) (fs := gs1 ++ fs) (c1.append f3) (fun _ h => h) (fun _ h => .inl h) (fun k hk => ?_) ?_ hK
  · -- the row's block
    obtain ⟨A1, cap1, hv, hc1, hm⟩ := hrow
    rw [s2] at hv
    cases hv
    rcases hm with ⟨h1, h2, h3, h4⟩ | ⟨b, off', vs', fs', h1, h2, h3, h4, h5⟩
    · left
      subst h1
      simp at s3
      have : lo.toNat = 0 := by omega
      exact ⟨by rw [h3]; split <;> rfl, subL_nil lo hi, by omega⟩
    · right
      obtain ⟨o', ho', hne', heq⟩ := sub_addr b off' cap0 lo.toNat e1.size
      subst h1
      rw [ho']
      refine ⟨b, o', rfl, ?_, ?_, id', by simp, by rw [h4]; simp⟩
      · rcases c5 with h | ⟨b0, o0, c0, k1, k2, k3, k4, k5, k6, k7⟩
        · have h0 : ws1.length = 0 := by rw [hwl, hsl, h.1]; simp
          rw [List.length_eq_zero_iff.1 h0]
          exact CellsAt.nil _ _ _
        · rw [s2] at k1
          cases k1
          by_cases hcl : cap0 = lo.toNat
          · have h0 : ws1.length = 0 := by
              rw [hwl, hsl]
              have : (hi - lo).toNat = 0 := by omega
              rw [this, Nat.zero_mul]
            rw [List.length_eq_zero_iff.1 h0]
            exact CellsAt.nil _ _ _
          · rw [hne' hcl]
            exact k5
      · by_cases hcl : cap0 = lo.toNat
        · rw [heq hcl]
          refine h5.le ?_
          rw [hcl]
          simp
        · rw [hne' hcl]
          refine h5.le ?_
          rw [Nat.add_assoc, ← Nat.add_mul]
          exact Nat.add_le_add_left (Nat.mul_le_mul_right _ (by omega)) _
  · rcases f4 with ⟨h1, h2, h3⟩ | ⟨b, off, h1, h2, h3, h4⟩
    · exact .inl h2
    · exact .inr ⟨b, off, h1, h2⟩
  · rcases List.mem_append.1 hk with hk | hk
    · have := c3 k (by simp [hk])
      exact ⟨(r.sp id' k this).1, ⟨id', by simp, this⟩, hx1 k hk⟩
    · obtain ⟨h1, _⟩ := f5 k hk
      rcases h1 with h1 | h1
      · have := c3 k (by simp [h1])
        refine ⟨(r.sp id' k this).1, ⟨id', by simp, this⟩, fun off e => ?_⟩
        rcases hAx k off e with h | h
        · have h0 : subL xs0 lo0 hi0 = [] := List.length_eq_zero_iff.1 (by rw [sub_len l3 l4 hhi, h.2]; simp)
          rw [h0] at c2
          rw [c2.2] at h1
          simp at h1
        · exact h.2 (by simp [h1])
      · exact ⟨(r.sp my k h1).1, ⟨my, by simp, h1⟩, fun off e => hdis k h1 (hrw k off e)⟩
  · refine List.nodup_append.2 ⟨(List.nodup_append.1 c4).1, f6, ?_⟩
    rintro k h1 k' h2 rfl
    rcases (f5 k h2).1 with h3 | h3
    · exact (List.nodup_append.1 c4).2.2 k h1 k h3 rfl
    · exact hdis k h3 (c3 k (by simp [h1]))

theorem actAppend_sound (htt : TTok P tt) (r : Rl F σ a w g) (hH : HOk H σ.h o.dst) (hn : NwOk F o) {p q : Operand} {t t' : TypeId} (ho : o.op = .call { callee := .builtin .append, args := #[p, q], argTypes := #[t, t'] })
    {e e' : CK} {bb : Nat} (he : elemT tt t = some e) (hbb : ebytes tt t = some bb) (he' : elemT tt t' = some e') {v1 v2 : CV} (hp : CVr g w σ.h v1 (a.eval p)) (hq : CVr g w σ.h v2 (a.eval q))
    (h : actAppend o H K e bb v1 v2 = some y) : Goal P F σ a w g o K y := by
  have old : appOld o H K e bb v1 v2 = some y → Goal P F σ a w g o K y := appOld_sound htt r hH hn ho he hbb he' hp hq
  unfold actAppend at h
  split at h
  · exact appNest_sound htt r hH hn ho he hbb he' hp hq h
  · cases hf : e.flat with
    | true => rw [hf] at h; exact old h
    | false =>
      rw [hf] at h
      simp only [cond_false] at h
      split at h
      · exact appPart_sound htt r hH hn ho he hbb he' hp hq h
      · cases h
  · rename_i mx ix vx
    cases hl : isLoan H mx with
    | true =>
      rw [hl] at h
      simp only [cond_true] at h
      split at h
      · exact appFin_sound htt r hH hn ho he hbb he' hp hq h
      · exact appLoan_sound htt r hH hn ho he hbb he' hp hq h
    | false =>
      rw [hl] at h
      simp only [cond_false] at h
      split at h
      · cases hf : e.flat with
        | true => rw [hf] at h; exact old h
        | false => rw [hf] at h; exact appMove_sound htt r hH hn ho he hbb he' hp hq h
      · exact old h
  · split at h
    · cases hf : e.flat with
      | true => rw [hf] at h; exact old h
      | false => rw [hf] at h; exact appMove_sound htt r hH hn ho he hbb he' hp hq h
    · exact old h

theorem act_append (htt : TTok P tt) (r : Rl F σ a w g) (hH : HOk H σ.h o.dst) (hn : NwOk F o) {as : Array Operand} {ts : Array TypeId} (ho : o.op = .call { callee := .builtin .append, args := as, argTypes := ts })
    (h : act tt env k o (o.op.operands.toList.map σ.ev) H K = some y) : Goal P F σ a w g o K y := by
  unfold act at h
  rw [ho] at h
  simp only [Op.operands, Call.operands, Array.empty_append] at h
  obtain ⟨l, rfl⟩ : ∃ l : List Operand, as = l.toArray := ⟨as.toList, by simp⟩
  obtain ⟨lt, rfl⟩ : ∃ l : List TypeId, ts = l.toArray := ⟨ts.toList, by simp⟩
  match l, h with
  | [], h => cases h
  | [z], h => simp only [List.map_cons, List.map_nil] at h; generalize σ.ev z = v1 at h; rcases v1 with v1 | v1 | v1 <;> first | (cases h; done) | (cases v1 <;> cases h; done)
  | z :: z' :: z2 :: l', h =>
    simp only [List.map_cons] at h
    generalize σ.ev z = v1 at h
    generalize σ.ev z' = v2 at h
    rcases v1 with v1 | v1 | v1 <;> rcases v2 with v2 | v2 | v2 <;> first | (cases h; done) | (cases v1 <;> cases v2 <;> cases h; done)
  | [p, q], h =>
    simp only [List.map_cons, List.map_nil] at h
    have hp := ev_sound r p
    have hq := ev_sound r q
    generalize σ.ev p = v1 at h hp
    generalize σ.ev q = v2 at h hq
    rcases v1 with v1 | v1 | v1 <;> rcases v2 with v2 | v2 | v2 <;> try (cases h; done)
    simp only at h
    match lt, h with
    | [], h => cases h
    | [_], h => cases h
    | _ :: _ :: _ :: _, h => cases h
    | [t, t'], h =>
    simp only at h
    split at h
    case h_2 => cases h
    rename_i e bb e' he hbb he'
    exact actAppend_sound htt r hH hn ho he hbb he' hp hq h
end
end VM

/- Slices out of parts. -/
set_option linter.unusedVariables false
set_option linter.unusedSimpArgs false
namespace VM
open Go

theorem memB_iff : ∀ {m : List Nat} {i : Nat}, memB m i = true ↔ i ∈ m
  | [], i => by simp [memB]
  | b :: m, i => by
    simp only [memB, List.mem_cons]
    by_cases e : i = b
    · subst e; simp
    · have : Nat.beq b i = false := by
        cases h : Nat.beq b i with
        | false => rfl
        | true => exact absurd (Nat.eq_of_beq_eq_true h).symm e
      rw [this]
      simp [e, memB_iff (m := m) (i := i)]

theorem nodB_iff : ∀ {m : List Nat}, nodB m = true ↔ m.Nodup
  | [] => by simp [nodB]
  | b :: m => by
    simp only [nodB, List.nodup_cons]
    cases h : memB m b with
    | true =>
      have := memB_iff.1 h
      simp [this]
    | false =>
      have : b ∉ m := fun hb => by rw [memB_iff.2 hb] at h; cases h
      simp [this, nodB_iff (m := m)]

section
variable {P : Program} {F : Fx} {σ : St} {a : Act} {w : World} {g : Gh} {R : Type} {tt : List (Nat × TD)} {env : List Ct} {k : Nat} {o : Oper} {H : Nat → RE} {K : Upd → Option R} {y : R}

theorem Rl.nodup_fps (r : Rl F σ a w g) : ∀ {ids : List Nat}, ids.Nodup → (ids.flatMap g.fp).Nodup
  | [], _ => by simp
  | id :: ids, h => by
    rw [List.nodup_cons] at h
    rw [List.flatMap_cons]
    refine List.nodup_append.2 ⟨r.nd id, r.nodup_fps h.2, ?_⟩
    rintro b h1 b' h2 rfl
    obtain ⟨id', h3, h4⟩ := List.mem_flatMap.1 h2
    rw [r.dj id id' b h1 h4] at h
    exact h.1 h3

theorem gathN_shared (r : Rl F σ a w g) (hH : HOk H σ.h o.dst) {m : Tk} {Z' : Nat → Prop} (hZ : ∀ b, g.Z b → Z' b) {e : CK} :
    ∀ {n : Nat} {cs : List CV} {xs : List e.den} {ids : List Nat}, gathN H m e n cs = some (xs, ids) → ∀ {us : List Value}, All2 (CVr g w σ.h) cs us → (∀ id ∈ ids, ∀ b ∈ g.fp id, Z' b) → Cat (Has Z' w false e) xs us []
  | 0, [], xs, ids, h, us, hu, hf => by
    simp only [gathN, Option.some.injEq, Prod.mk.injEq] at h
    obtain ⟨rfl, rfl⟩ := h
    match us, hu with
    | [], _ => exact ⟨rfl, rfl⟩
  | 0, _ :: _, xs, ids, h, us, hu, hf => by simp [gathN] at h
  | n + 1, cs, xs, ids, h, us, hu, hf => by
    simp only [gathN] at h
    split at h
    · rename_i x i1 r1 h1
      split at h
      · rename_i ys i2 h2
        simp only [Option.some.injEq, Prod.mk.injEq] at h
        obtain ⟨rfl, rfl⟩ := h
        obtain ⟨u1, u2, rfl, k1, k2⟩ := gath_shared r hH hZ h1 hu (fun id hid => hf id (by simp [hid]))
        exact ⟨u1, u2, [], [], rfl, rfl, k1, gathN_shared r hH hZ h2 k2 (fun id hid => hf id (by simp [hid]))⟩
      · cases h
    · cases h

theorem gathN_deep (r : Rl F σ a w g) (hH : HOk H σ.h o.dst) {e : CK} :
    ∀ {n : Nat} {cs : List CV} {xs : List e.den} {ids : List Nat}, gathN H .deep e n cs = some (xs, ids) → ∀ {us : List Value}, All2 (CVr g w σ.h) cs us → Cat (Has g.Z w true e) xs us (ids.flatMap g.fp)
  | 0, [], xs, ids, h, us, hu => by
    simp only [gathN, Option.some.injEq, Prod.mk.injEq] at h
    obtain ⟨rfl, rfl⟩ := h
    match us, hu with
    | [], _ => exact ⟨rfl, rfl⟩
  | 0, _ :: _, xs, ids, h, us, hu => by simp [gathN] at h
  | n + 1, cs, xs, ids, h, us, hu => by
    simp only [gathN] at h
    split at h
    · rename_i x i1 r1 h1
      split at h
      · rename_i ys i2 h2
        simp only [Option.some.injEq, Prod.mk.injEq] at h
        obtain ⟨rfl, rfl⟩ := h
        obtain ⟨u1, u2, rfl, k1, k2⟩ := gath_deep r hH h1 hu
        exact ⟨u1, u2, _, _, rfl, by simp, k1, gathN_deep r hH h2 k2⟩
      · cases h
    · cases h

theorem slOf_same (r : Rl F σ a w g) (hH : HOk H σ.h o.dst) {m : Tk} {v : CV} {e : CK} {xs : List e.den} {ids : List Nat} (h : slOf H m v e = some (xs, ids)) : ∀ id ∈ ids, H id = σ.h id := by
  cases v with
  | nil =>
    simp only [slOf, Option.some.injEq, Prod.mk.injEq] at h
    obtain ⟨_, rfl⟩ := h
    simp
  | sl e' ys =>
    simp only [slOf] at h
    cases m <;> simp only at h <;> try cases h
    all_goals
      split at h
      · simp only [Option.some.injEq, Prod.mk.injEq] at h
        obtain ⟨_, rfl⟩ := h
        simp
      · cases h
  | row id inc ver p =>
    simp only [slOf] at h
    split at h
    · rename_i R hR
      obtain ⟨k1, _⟩ := rowAt_sound r hH hR
      split at h
      · have hids : ids = [id] := by
          cases m <;> simp only at h
          · cases p with
            | nil => simp only at h; cases hb : (R.d || e.flat) <;> rw [hb] at h <;> simp at h; exact h.2.symm
            | cons => simp at h
          · cases p with
            | nil => simp at h; exact h.2.symm
            | cons => simp at h
          · simp at h; exact h.2.symm
          · cases hb : (R.d || e.flat) <;> rw [hb] at h <;> simp at h; exact h.2.symm
        subst hids
        simpa using k1
      · cases h
    · cases h
  | rsub id inc ver p lo hi =>
    simp only [slOf] at h
    split at h
    · rename_i R hR
      obtain ⟨k1, _⟩ := rowAt_sound r hH hR
      split at h
      · have hids : ids = [id] := by
          cases m <;> simp only at h
          · cases p with
            | nil => simp only at h; cases hb : e.flat <;> rw [hb] at h <;> simp at h; exact h.2.symm
            | cons => simp at h
          · cases p with
            | nil => simp only at h; cases hb : e.flat <;> rw [hb] at h <;> simp at h; exact h.2.symm
            | cons => simp at h
          · simp at h; exact h.2.symm
          · cases h
        subst hids
        simpa using k1
      · cases h
    · cases h
  | undef | int | bool | str | rp | fn | vptr | ptr | map => simp [slOf] at h

theorem gath_same (r : Rl F σ a w g) (hH : HOk H σ.h o.dst) {m : Tk} : ∀ {c : CK} {cs : List CV} {x : c.den} {ids : List Nat} {rest : List CV}, gath H m c cs = some (x, ids, rest) → ∀ id ∈ ids, H id = σ.h id
  | .int k, cs, x, ids, rest, h => by
    cases cs with
    | nil => simp [gath] at h
    | cons v r' =>
      cases v <;> simp only [gath] at h <;> try cases h
      split at h <;> try cases h
      simp
  | .bool, cs, x, ids, rest, h => by
    cases cs with
    | nil => simp [gath] at h
    | cons v r' =>
      cases v <;> simp only [gath] at h <;> try cases h
      simp
  | .str, cs, x, ids, rest, h => by
    cases cs with
    | nil => simp [gath] at h
    | cons v r' =>
      cases v <;> simp only [gath] at h <;> try cases h
      simp
  | .unit, cs, x, ids, rest, h => by
    cases cs <;> (simp only [gath, Option.some.injEq, Prod.mk.injEq] at h; obtain ⟨_, rfl, rfl⟩ := h; simp)
  | .sl e, cs, x, ids, rest, h => by
    cases cs with
    | nil => simp [gath] at h
    | cons v r' =>
    have h' : (match slOf H m v e with | some (xs, ids) => some (xs, ids, r') | none => none) = some (x, ids, rest) := h
    clear h
    cases hs : slOf H m v e with
    | none => rw [hs] at h'; cases h'
    | some q =>
      rw [hs] at h'
      obtain ⟨xs, ids'⟩ := q
      simp only [Option.some.injEq, Prod.mk.injEq] at h'
      obtain ⟨rfl, rfl, rfl⟩ := h'
      exact slOf_same r hH hs
  | .pair p q, cs, x, ids, rest, h => by
    have h' : (match gath H m p cs with
      | some (x, i1, r1) => match gath H m q r1 with
        | some (y, i2, r2) => some ((x, y), i1 ++ i2, r2)
        | none => none
      | none => none) = some (x, ids, rest) := by
        cases cs <;> exact h
    clear h
    split at h' <;> try cases h'
    rename_i y i1 r1 hp
    split at h' <;> try cases h'
    rename_i z i2 r2 hq
    intro id hid
    exact (List.mem_append.1 hid).elim (gath_same r hH hp id) (gath_same r hH hq id)

theorem gathN_same (r : Rl F σ a w g) (hH : HOk H σ.h o.dst) {m : Tk} {e : CK} : ∀ {n : Nat} {cs : List CV} {xs : List e.den} {ids : List Nat}, gathN H m e n cs = some (xs, ids) → ∀ id ∈ ids, H id = σ.h id
  | 0, [], xs, ids, h => by
    simp only [gathN, Option.some.injEq, Prod.mk.injEq] at h
    obtain ⟨rfl, rfl⟩ := h
    simp
  | 0, _ :: _, xs, ids, h => by simp [gathN] at h
  | n + 1, cs, xs, ids, h => by
    simp only [gathN] at h
    split at h
    · rename_i x i1 r1 h1
      split at h
      · rename_i ys i2 h2
        simp only [Option.some.injEq, Prod.mk.injEq] at h
        obtain ⟨rfl, rfl⟩ := h
        intro id hid
        exact (List.mem_append.1 hid).elim (gath_same r hH h1 id) (gathN_same r hH h2 id)
      · cases h
    · cases h

theorem gathN_len {m : Tk} {e : CK} : ∀ {n : Nat} {cs : List CV} {xs : List e.den} {ids : List Nat}, gathN H m e n cs = some (xs, ids) → xs.length = n
  | 0, [], xs, ids, h => by
    simp only [gathN, Option.some.injEq, Prod.mk.injEq] at h
    obtain ⟨rfl, rfl⟩ := h
    rfl
  | 0, _ :: _, xs, ids, h => by simp [gathN] at h
  | n + 1, cs, xs, ids, h => by
    simp only [gathN] at h
    split at h
    · split at h
      · rename_i ys i2 h2
        simp only [Option.some.injEq, Prod.mk.injEq] at h
        obtain ⟨rfl, rfl⟩ := h
        simp [gathN_len h2]
      · cases h
    · cases h

theorem zeros_vals (g : Gh) (w : World) (h : Nat → RE) (e : CK) : ∀ n, All2 (CVr g w h) (List.replicate n (expZ e)).flatten (List.replicate n e.zero).flatten
  | 0 => trivial
  | n + 1 => (zero_vals g w h e).append (zeros_vals g w h e n)

theorem act_buildSlice (htt : TTok P tt) (r : Rl F σ a w g) (hH : HOk H σ.h o.dst) (hn : NwOk F o) {t : TypeId} {n : Nat} {ps : Array (Nat × Operand)} (ho : o.op = .buildSlice t n ps) (h : act tt env k o (o.op.operands.toList.map σ.ev) H K = some y) : Goal P F σ a w g o K y := by
  unfold act at h
  rw [ho] at h
  simp only [Op.operands] at h
  split at h
  case h_2 => cases h
  rename_i e he
  obtain ⟨hsmall, h⟩ := cond_some h
  have hsmall : n * e.size ≤ 16777216 := by simpa using hsmall
  split at h
  case h_2 => cases h
  rename_i rows hb
  obtain ⟨b, fs, hl⟩ := elemT_some he
  obtain ⟨et, i, zz, h1, h2, h3, h4, h5, h6, h7, h8⟩ := elem_facts htt hl
  have hps := parts_sound r ps.toList
  have hlz : (List.replicate n e.zero).flatten.length = n * e.size := by rw [List.length_flatten]; simp [h8]
  obtain ⟨us, hf, hus⟩ := buildC_sound (place := fun i => some (i * e.size, e.size)) (n := n * e.size) (fun j off d hj => by
      rw [List.getElem?_map] at hj
      obtain ⟨j', hj1, hj2⟩ := Option.map_eq_some_iff.1 hj
      have hlt : j < n := by have := (List.getElem?_eq_some_iff.1 hj1).1; simpa using this
      rw [List.getElem?_range hlt] at hj1
      cases hj1
      cases hj2
      refine ⟨rfl, ?_⟩
      have := Nat.mul_le_mul_right e.size (show j + 1 ≤ n from hlt)
      rw [Nat.add_mul] at this
      omega) hps (zeros_vals g w σ.h e n) hlz hb
  have run : (execOp a.eval o).run P w = .ok (.value (.slice (some ⟨w.heap.size, 0, none⟩) n n)) (w.alloc (.cells us.toArray et)) := by
    have hmade : (madeCells e.zero.toArray (n * e.size)) = (List.replicate n e.zero).flatten.toArray := by rw [← made_list h8 n]
    unfold execOp
    rw [ho]
    have hf' : Instr.fill (fun i => some (i * e.size, e.size)) (List.replicate n e.zero).flatten.toArray (ps.map fun x => (x.1, a.eval x.2)).toList = some us.toArray := by
      rw [Array.toList_map]; exact hf
    have hbs : (Instr.buildSlice t n (ps.map fun x => (x.1, a.eval x.2))).run P w = .ok (.slice (some ⟨w.heap.size, 0, none⟩) n n) (w.alloc (.cells us.toArray et)) := by
      by_cases h0 : n * e.size = 0
      · unfold Instr.buildSlice
        have hn0 : n = 0 := by
          rcases Nat.mul_eq_zero.1 h0 with h | h
          · exact h
          · omega
        subst hn0
        rw [Array.toList_map] at hf'
        simp at hf'
        simp [run_underlying h1, Go.sizeOf, typeInfo, h3, h5, hf', newRow, Array.range_zero']
      · refine run_buildSlice w t et n _ _ i zz h1 h3 h6 (by rw [h5]; omega) (by rw [h5]; exact h0) ?_
        rw [h5, h7]
        have hm2 : (Array.range (n * e.size)).map (fun x => e.zero.toArray[x % e.zero.toArray.size]!) = (List.replicate n e.zero).flatten.toArray := hmade
        rw [hm2]
        exact hf'
    simp only [Sem.run_bind, hbs, Result.andThen_ok, Sem.run_pure]
  have fin : ∀ (d : Bool) (xs : List e.den) (ids : List Nat) (Z' : Nat → Prop) (ff : List Nat), xs.length = n → (∀ id ∈ ids, H id = σ.h id) → (∀ b, g.Z b → Z' b) → (∀ b, Z' b → g.Z b ∨ ∃ id ∈ ids, b ∈ g.fp id) → Cat (Has Z' w d e) xs us ff →
      (∀ b ∈ ff, ¬ Z' b ∧ ∃ id ∈ ids, b ∈ g.fp id) → ff.Nodup → K ⟨.one (.row (nid o.dst 0) ((H (nid o.dst 0)).inc + 1) 0 []), (nid o.dst 0, ⟨(H (nid o.dst 0)).inc + 1, 0, .row d e xs⟩) :: dead H ids⟩ = some y → Goal P F σ a w g o K y := by
    intro d xs ids Z' ff hlen hsame hZZ hZT hcat hff hnd hK
    have hlt : ∀ b, b ∈ ff → b < w.heap.size := fun b hb => by
      obtain ⟨_, id, _, h⟩ := hff b hb
      exact (r.rt id).lt b h
    refine goal_newRow (Z' := Z') (T := ids) (fp := w.heap.size :: ff) (w' := w.alloc (.cells us.toArray et)) r hH hn hsame hZZ hZT rfl rfl rfl (by simp) (fun b hb _ => heap_alloc_old w _ hb) ?_ ?_ ?_ hK run
    · exact List.nodup_cons.2 ⟨fun hb => by have := hlt _ hb; omega, hnd⟩
    · intro b hb
      rcases List.mem_cons.1 hb with rfl | hb
      · refine ⟨fun hz => ?_, .inl (Nat.le_refl _)⟩
        rcases hZT _ hz with h | ⟨id, _, h⟩
        · have := r.zl _ h; omega
        · have := (r.rt id).lt _ h; omega
      · exact ⟨(hff b hb).1, .inr (hff b hb).2⟩
    · refine ⟨some ⟨w.heap.size, 0, none⟩, n, by rw [hlen], by omega, .inr ⟨w.heap.size, 0, us, ff, rfl, CellsAt.new w _ _, ?_, rfl, OwnB.new w _ _ ?_⟩⟩
      · refine hcat.mono _ (fun x _ u f hf hxx => Has.frame (w := w) (w' := w.alloc (.cells us.toArray et)) (fun b hb => ?_) (fun _ h => h) hxx (fun b' hb' => ?_))
        · refine heap_alloc_old w _ ?_
          rcases hZT b hb with h | ⟨id, _, h⟩
          · exact r.zl b h
          · exact (r.rt id).lt b h
        · exact heap_alloc_old w _ (hlt b' (hf b' hb'))
      · rw [Nat.zero_add, Cat.len (fun _ _ _ h => Has.len h) hcat, hlen]
        exact Nat.le_refl _
  split at h
  · rename_i xs ids hg
    obtain ⟨hnd, hK⟩ := cond_some h
    refine fin true xs ids g.Z (ids.flatMap g.fp) (gathN_len hg) (gathN_same r hH hg) (fun _ h => h) (fun _ h => .inl h) (gathN_deep r hH hg hus) (fun b hb => ?_) (r.nodup_fps (nodB_iff.1 hnd)) hK
    obtain ⟨id, h1, h2⟩ := List.mem_flatMap.1 hb
    exact ⟨fun hz => (r.sp id b h2).1 hz, id, h1, h2⟩
  · split at h
    · rename_i xs ids hg
      obtain ⟨hnd, hK⟩ := cond_some h
      let Z' : Nat → Prop := fun b => g.Z b ∨ ∃ id ∈ ids, b ∈ g.fp id
      exact fin false xs ids Z' [] (gathN_len hg) (gathN_same r hH hg) (fun _ h => .inl h) (fun _ h => h) (gathN_shared r hH (fun _ h => .inl h) hg hus (fun id h b hb => .inr ⟨id, h, hb⟩)) (by simp) (by simp) hK
    · cases h
end
end VM
