/- The operations, one by one. -/
import Derived.Test.YtljofbhokcdklaaVMd
import Derived.WalkLawsBesides
import Derived.Laws.Strings
import Derived.Laws.StructEq
set_option linter.unusedVariables false
set_option linter.unusedSimpArgs false
namespace VM
open Go

/-- A value of kind 'c' out of its cells. -/
def valV (c : CK) (us : List Value) : Value := bif c.isAgg then .agg us.toArray else us.headD undef
def isAggD : TypeDesc → Bool
  | .struct _ => true
  | .array _ _ => true
  | _ => false
def zeroV (c : CK) : Value := valV c c.zero

/-- The type 't' of the program is of kind 'c'. -/
structure TypeIs (P : Program) (t : TypeId) (c : CK) : Prop where
  ex : ∃ i d, P.info? t = some i ∧ P.underlying t = some d ∧ i.size = c.size ∧ i.zero = some (zeroV c) ∧ isAggD d = c.isAgg

/-- How the type of a map's key is described. -/
def keyD : CK → Option TypeDesc
  | .int k => some (.int k)
  | .bool => some .bool
  | .str => some .string
  | _ => none

/-- The fields, one cell each, one behind the other. -/
def EqF (P : Program) : CK → List Field → Nat → Prop
  | .unit, [], _ => True
  | .pair a b, f :: r, off => f.name ≠ "_" ∧ f.offset = off ∧ (∃ d, keyD a = some d ∧ P.underlying f.type = some d) ∧ TypeIs P f.type a ∧ EqF P b r (off + 1)
  | _, _, _ => False

structure TTok (P : Program) (tt : List (Nat × TD)) : Prop where
  is : ∀ t c b fs, look tt t = some (.val c b fs) → TypeIs P t c
  int : ∀ t k b fs, look tt t = some (.val (.int k) b fs) → P.underlying t = some (.int k)
  str : ∀ t b fs, look tt t = some (.val .str b fs) → P.underlying t = some .string
  bool : ∀ t b fs, look tt t = some (.val .bool b fs) → P.underlying t = some .bool
  elt : ∀ t k b fs, look tt t = some (.val (.sl (.int k)) b fs) → ∃ et, P.underlying t = some (.slice et) ∧ P.underlying et = some (.int k)
  sl : ∀ t e b fs, look tt t = some (.val (.sl e) b fs) → ∃ et, P.underlying t = some (.slice et) ∧ TypeIs P et e ∧ 0 < e.size ∧ ∃ i, P.info? et = some i ∧ i.bytes = b
  fld : ∀ t c b (fs : List (Nat × CK)) (f off : Nat) (d : CK), look tt t = some (.val c b fs) → fs[f]? = some (off, d) → ∃ (Fs : Array Field) (fl : Field), P.underlying t = some (.struct Fs) ∧ Fs[f]? = some fl ∧ fl.offset = off ∧ TypeIs P fl.type d ∧ 0 < d.size ∧ off + d.size ≤ c.size
  agg : ∀ t c b (fs : List (Nat × CK)), look tt t = some (.val c b fs) → c.isAgg = true → ∃ Fs : Array Field, P.underlying t = some (.struct Fs) ∧ Fs.size = fs.length ∧
    ∀ (f : Nat) (fl : Field), Fs[f]? = some fl → ∃ off d, fs[f]? = some (off, d) ∧ fl.offset = off ∧ TypeIs P fl.type d ∧ off + d.size ≤ c.size
  eqs : ∀ t c b fs, look tt t = some (.val c b fs) → c.cmp = true → ∃ Fs : List Field, P.underlying t = some (.struct Fs.toArray) ∧ P.stoodInHeld t = false ∧ P.eqGuardType P.depth t = false ∧ EqF P c Fs 0
  mp : ∀ t k e, look tt t = some (.map k e) → ∃ kt et d, P.underlying t = some (.map kt et) ∧ keyD k = some d ∧ P.underlying kt = some d ∧ TypeIs P et e ∧ e.pl = true

theorem TypeIs.size {P : Program} {t : TypeId} {c : CK} (h : TypeIs P t c) (w : World) : (Go.sizeOf t).run P w = .ok c.size w := by
  obtain ⟨i, d, h1, h2, h3, h4, h5⟩ := h.ex
  simp [Go.sizeOf, typeInfo, h1, h3]
theorem TypeIs.zeroV {P : Program} {t : TypeId} {c : CK} (h : TypeIs P t c) (w : World) : (zeroValue t).run P w = .ok (VM.zeroV c) w := by
  obtain ⟨i, d, h1, h2, h3, h4, h5⟩ := h.ex
  simp [zeroValue, typeInfo, h1, h4]
theorem TypeIs.agg {P : Program} {t : TypeId} {c : CK} (h : TypeIs P t c) (w : World) : (Go.isAgg t).run P w = .ok c.isAgg w := by
  obtain ⟨i, d, h1, h2, h3, h4, h5⟩ := h.ex
  simp only [Go.isAgg, Sem.run_bind, run_underlying h2, Result.andThen_ok]
  cases d <;> simp [isAggD] at h5 <;> simp [← h5]

def OpPost (P : Program) (o : Oper) (a : Act) (w : World) (Φ : Value → World → Prop) : Prop :=
  ∀ (next : Act → World → Prop) (Q : Exit → Act → World → Prop), (∀ v w', Φ v w' → next (a.put o.dst v) w') → o.wp P a w next Q

theorem OpPost.value {P : Program} {o : Oper} {a : Act} {w w' : World} {Φ : Value → World → Prop} {v : Value} (h : (execOp a.eval o).run P w = .ok (.value v) w') (hp : Φ v w') : OpPost P o a w Φ := by
  intro next Q hn
  unfold Oper.wp
  rw [h]
  exact hn v w' hp
theorem OpPost.skip {P : Program} {o : Oper} {a : Act} {w w' : World} {Φ : Value → World → Prop} (h : (execOp a.eval o).run P w = .ok .skip w') (hp : Φ undef w') : OpPost P o a w Φ := by
  intro next Q hn
  unfold Oper.wp
  rw [h]
  exact hn undef w' hp

/-- What an operation comes to. -/
def Post (F : Fx) (σ : St) (a : Act) (g : Gh) (u : Upd) (v : Value) (w' : World) : Prop :=
  ∃ g', Rl F ⟨σ.s, setH σ.h u.hs⟩ a w' g' ∧ SVr g' w' (setH σ.h u.hs) u.v v

theorem ofVals_sound (g : Gh) (w : World) (h : Nat → RE) : ∀ {l : List Value} {cs : List CV}, ofVals l = some cs → All2 (CVr g w h) cs l
  | [], cs, e => by simp only [ofVals, Option.some.injEq] at e; subst e; trivial
  | v :: l, cs, e => by
    cases v with
    | bool b =>
      simp only [ofVals, Option.map_eq_some_iff] at e
      obtain ⟨cs', h1, rfl⟩ := e
      exact ⟨rfl, ofVals_sound g w h h1⟩
    | int k n =>
      simp only [ofVals, Option.map_eq_some_iff] at e
      obtain ⟨cs', h1, rfl⟩ := e
      exact ⟨rfl, ofVals_sound g w h h1⟩
    | string s =>
      simp only [ofVals, Option.map_eq_some_iff] at e
      obtain ⟨cs', h1, rfl⟩ := e
      refine ⟨?_, ofVals_sound g w h h1⟩
      show Value.string s = strV s.data.toList
      simp [strV]
    | slice a n c =>
      match a, n, c with
      | none, 0, 0 =>
        simp only [ofVals, Option.map_eq_some_iff] at e
        obtain ⟨cs', h1, rfl⟩ := e
        exact ⟨rfl, ofVals_sound g w h h1⟩
      | some _, _, _ => simp [ofVals] at e
      | none, _ + 1, _ => simp [ofVals] at e
      | none, 0, _ + 1 => simp [ofVals] at e
    | _ => simp [ofVals] at e

theorem ofVal_sound (g : Gh) (w : World) (h : Nat → RE) (v : Value) : SVr g w h (ofVal v) v := by
  unfold ofVal
  split
  · rfl
  · rfl
  · show _ = strV _; simp [strV]
  · rfl
  · rename_i cs
    split
    · rename_i l hl
      exact ⟨cs.toList, by simp, ofVals_sound g w h hl⟩
    · trivial
  · trivial

theorem ev_sound {F : Fx} {σ : St} {a : Act} {w : World} {g : Gh} (r : Rl F σ a w g) (x : Operand) : SVr g w σ.h (σ.ev x) (a.eval x) := by
  cases x with
  | tmp t => exact r.sl t
  | const v => exact ofVal_sound g w σ.h v
  | global _ => trivial
  | func f => rfl

theorem Rl.same {F : Fx} {σ : St} {a : Act} {w : World} {g : Gh} (r : Rl F σ a w g) : Rl F ⟨σ.s, setH σ.h []⟩ a w g := r

theorem pure_post {F : Fx} {σ : St} {a : Act} {w : World} {g : Gh} (r : Rl F σ a w g) {v : SV} {x : Value} (h : SVr g w σ.h v x) : Post F σ a g ⟨v, []⟩ x w := ⟨g, r, h⟩

section
variable {P : Program} {F : Fx} {σ : St} {a : Act} {w : World} {g : Gh}

theorem run_binop_int {k : IntKind} {x y : Int} {op : BinOp} {o : Oper} {t t' : TypeId} {p q : Operand} (ho : o.op = .binOp op t p q t') (hp : a.eval p = .int k x) (hq : a.eval q = .int k y)
    {v : Value} (h : (binOp op t (.int k x) (.int k y)).run P w = .ok v w) : (execOp a.eval o).run P w = .ok (.value v) w := by
  unfold execOp
  rw [ho]
  simp only [hp, hq]
  have hg : (eqGuard op t p q (.int k x) (.int k y)).run P w = .ok () w := by
    unfold eqGuard
    cases op <;> simp
  simp [hg, h]

theorem run_binop_str {x y : ByteArray} {op : BinOp} {o : Oper} {t t' : TypeId} {p q : Operand} (ho : o.op = .binOp op t p q t') (hp : a.eval p = .string x) (hq : a.eval q = .string y)
    {v : Value} (h : (binOp op t (.string x) (.string y)).run P w = .ok v w) : (execOp a.eval o).run P w = .ok (.value v) w := by
  unfold execOp
  rw [ho]
  simp only [hp, hq]
  have hg : (eqGuard op t p q (.string x) (.string y)).run P w = .ok () w := by
    unfold eqGuard
    cases op <;> simp
  simp [hg, h]

theorem need_some {R α : Type} {x : Option α} {K : α → Option R} {r : R} (h : need x K = some r) : ∃ y, x = some y ∧ K y = some r := by
  cases x with
  | none => cases h
  | some y => exact ⟨y, rfl, h⟩
theorem bnd_some {R α : Type} {x : Option α} {K : α → Option R} {r : R} (h : bnd x K = some r) : ∃ y, x = some y ∧ K y = some r := by
  cases x with
  | none => cases h
  | some y => exact ⟨y, rfl, h⟩
theorem grd_some {R : Type} {c : Bool} {K : Option R} {r : R} (h : grd c K = some r) : c = true ∧ K = some r := by
  cases c with
  | false => cases h
  | true => exact ⟨rfl, h⟩
theorem cond_some {R : Type} {c : Bool} {K : Option R} {r : R} (h : (bif c then K else none) = some r) : c = true ∧ K = some r := by
  cases c with
  | false => cases h
  | true => exact ⟨rfl, h⟩

theorem cmpI_sound {op : BinOp} {k : IntKind} {x y : Int} {c : Bool} {t : TypeId} (h : cmpI op x y = some c) : (binOp op t (.int k x) (.int k y)).run P w = .ok (.bool c) w := by
  cases op <;> simp only [cmpI, Option.some.injEq] at h <;> try cases h
  all_goals simp [binOp, Op.intCmp]
  · by_cases e : x = y <;> simp [e]
  · by_cases e : x = y <;> simp [e]

theorem binI_sound {R : Type} {op : BinOp} {k : IntKind} {x y : Int} {t : TypeId} {K : CV → Option R} {r : R} (h : binI op k x y K = some r) :
    ∃ cv v, K cv = some r ∧ (binOp op t (.int k x) (.int k y)).run P w = .ok v w ∧ CVr g w σ.h cv v := by
  have cmp : ∀ c, cmpI op x y = some c → K (.bool c) = some r → ∃ cv v, K cv = some r ∧ (binOp op t (.int k x) (.int k y)).run P w = .ok v w ∧ CVr g w σ.h cv v :=
    fun c hc hK => ⟨_, _, hK, cmpI_sound hc, rfl⟩
  cases op <;> simp only [binI] at h
  case add => exact ⟨_, _, h, by simp [binOp, Op.intArith], rfl⟩
  case sub => exact ⟨_, _, h, by simp [binOp, Op.intArith], rfl⟩
  case mul => exact ⟨_, _, h, by simp [binOp, Op.intArith], rfl⟩
  case quo =>
    obtain ⟨hc, h⟩ := grd_some h
    have hy : y ≠ 0 := by simpa using hc
    exact ⟨_, _, h, by simp [binOp, Op.intDiv, hy], rfl⟩
  case rem =>
    obtain ⟨hc, h⟩ := grd_some h
    have hy : y ≠ 0 := by simpa using hc
    exact ⟨_, _, h, by simp [binOp, Op.intDiv, hy], rfl⟩
  case and => exact ⟨_, .int k (bitI .and k x y), h, by rw [binOp_and]; rfl, rfl⟩
  case or => exact ⟨_, .int k (bitI .or k x y), h, by rw [binOp_or]; rfl, rfl⟩
  case xor => exact ⟨_, .int k (bitI .xor k x y), h, by rw [binOp_xor]; rfl, rfl⟩
  case andNot => exact ⟨_, .int k (bitI .andNot k x y), h, by rw [binOp_andNot]; rfl, rfl⟩
  case shl => cases h
  case shr => cases h
  all_goals
    obtain ⟨c, hc, hK⟩ := need_some h
    exact cmp c hc hK

theorem cmpS_sound {op : BinOp} {x y : List UInt8} {c : Bool} {t : TypeId} (h : cmpS op x y = some c) : (binOp op t (strV x) (strV y)).run P w = .ok (.bool c) w := by
  cases op <;> simp only [cmpS, Option.some.injEq] at h <;> try cases h
  all_goals simp [binOp, Op.stringOp, strV, ltS]
  all_goals try (by_cases e : x = y <;> simp [e])

theorem binV_sound {R : Type} {tb : Bool} {o : Oper} {op : BinOp} {t t' : TypeId} {px py : Operand} {x y : CV} {K : CV → Option R} {r : R} (h : binV tb op x y K = some r) (htb : tb = true → P.underlying t = some .bool) (ho : o.op = .binOp op t px py t')
    (hx : CVr g w σ.h x (a.eval px)) (hy : CVr g w σ.h y (a.eval py)) :
    ∃ cv v, K cv = some r ∧ (execOp a.eval o).run P w = .ok (.value v) w ∧ CVr g w σ.h cv v := by
  unfold binV at h
  split at h
  · rename_i k m k' n
    have hx : a.eval px = .int k m := hx
    have hy : a.eval py = .int k' n := hy
    have shift : ∀ v : Value, (binOp op t (.int k m) (.int k' n)).run P w = .ok v w → (execOp a.eval o).run P w = .ok (.value v) w := by
      intro v hv
      unfold execOp
      rw [ho]
      simp [hx, hy, eqGuard_at_int, hv]
    split at h
    · obtain ⟨hc, h⟩ := grd_some h
      have h0 : ¬ n < 0 := by simpa using hc
      exact ⟨_, _, h, shift (.int k (shlI k m n)) (by simp [binOp, Op.shift, h0, shlI]), rfl⟩
    · obtain ⟨hc, h⟩ := grd_some h
      have h0 : ¬ n < 0 := by simpa using hc
      exact ⟨_, _, h, shift (.int k (shrI k m n)) (by simp [binOp, Op.shift, h0, shrI]), rfl⟩
    · split at h
      · rename_i hk
        subst hk
        obtain ⟨cv, v, h1, h2, h3⟩ := binI_sound (P := P) (w := w) (g := g) (σ := σ) (t := t) h
        exact ⟨cv, v, h1, run_binop_int ho hx hy h2, h3⟩
      · cases h
  · rename_i m n
    have hx : a.eval px = strV m := hx
    have hy : a.eval py = strV n := hy
    split at h
    · obtain ⟨hc, h⟩ := grd_some h
      have hc : m.length + n.length ≤ 4611686018427387904 := by simpa using hc
      refine ⟨_, strV (m ++ n), h, run_binop_str ho hx hy ?_, rfl⟩
      have : ¬ ((m.length + n.length : Nat) : Int) > IntKind.i64.max := by rw [IntKind.max_i64]; omega
      simp only [binOp, Op.stringOp, strV]
      rw [if_neg (by simpa [ByteArray.size] using this)]
      simp only [Sem.run_pure]
      congr 2
    · obtain ⟨c, hc, h⟩ := need_some h
      exact ⟨_, _, h, run_binop_str ho hx hy (cmpS_sound hc), rfl⟩
  · rename_i m n
    have hx : a.eval px = .bool m := hx
    have hy : a.eval py = .bool n := hy
    obtain ⟨hc, h⟩ := cond_some h
    have ht := htb hc
    have eq : ∀ k : Nat, (Op.equalIn (k + 1) t (.bool m) (.bool n)).run P w = .ok (m == n) w := by
      intro k
      simp [Op.equalIn, run_underlying ht]
    split at h
    · refine ⟨_, .bool (m == n), h, ?_, rfl⟩
      unfold execOp
      rw [ho]
      simp [hx, hy, eqGuard_at_bool, binOp, Op.equal, Op.maxDepth, eq 9999]
    · refine ⟨_, .bool (!(m == n)), h, ?_, rfl⟩
      unfold execOp
      rw [ho]
      simp [hx, hy, eqGuard_at_bool, binOp, Op.equal, Op.maxDepth, eq 9999]
    · cases h
  · cases h
end
end VM
