/- The table of kinds, checked against the program's types. -/
import Derived.Test.YtljofbhokcdklaaVNe
set_option linter.unusedVariables false
set_option linter.unusedSimpArgs false
namespace VM
open Go

/-- Whether the value is the cell that a zero value of one cell has. -/
def zcB : CK → Value → Bool
  | .int k, .int k' n => decide (k = k') && decide (n = 0)
  | .bool, .bool b => !b
  | .str, .string ⟨⟨[]⟩⟩ => true
  | .sl _, .slice none 0 0 => true
  | _, _ => false
def zcsB : CK → List Value → Option (List Value)
  | .unit, l => some l
  | .pair a b, l => match zcsB a l with | some r => zcsB b r | none => none
  | c, v :: l => bif zcB c v then some l else none
  | _, [] => none
def zvB (c : CK) (v : Value) : Bool :=
  bif c.isAgg then (match v with
    | .agg ⟨l⟩ => match zcsB c l with | some [] => true | _ => false
    | _ => false)
  else zcB c v

theorem zcB_eq {c : CK} {v : Value} (h : zcB c v = true) : c.isAgg = false ∧ c.zero = [v] := by
  unfold zcB at h
  split at h <;> simp_all [CK.isAgg, CK.zero]
theorem zcsB_one {c : CK} {l r : List Value} (hc : ∀ l, zcsB c l = match l with | v :: l => (bif zcB c v then some l else none) | [] => none) (h : zcsB c l = some r) : l = c.zero ++ r := by
  rw [hc] at h
  cases l with
  | nil => cases h
  | cons v l =>
    dsimp only at h
    cases hb : zcB c v with
    | false => rw [hb] at h; cases h
    | true =>
      rw [hb] at h
      simp only [cond_true, Option.some.injEq] at h
      rw [(zcB_eq hb).2, h]; rfl
theorem zcsB_eq : ∀ {c : CK} {l r : List Value}, zcsB c l = some r → l = c.zero ++ r
  | .unit, l, r, h => by simp only [zcsB, Option.some.injEq] at h; simpa [CK.zero] using h
  | .pair a b, l, r, h => by
    simp only [zcsB] at h
    cases h1 : zcsB a l with
    | none => rw [h1] at h; cases h
    | some m =>
      rw [h1] at h
      rw [zcsB_eq h1, zcsB_eq h, CK.zero, List.append_assoc]
  | .int k, l, r, h => zcsB_one (fun l => by cases l <;> rfl) h
  | .bool, l, r, h => zcsB_one (fun l => by cases l <;> rfl) h
  | .str, l, r, h => zcsB_one (fun l => by cases l <;> rfl) h
  | .sl _, l, r, h => zcsB_one (fun l => by cases l <;> rfl) h
theorem zvB_eq {c : CK} {v : Value} (h : zvB c v = true) : v = zeroV c := by
  unfold zvB at h
  unfold zeroV valV
  cases hc : c.isAgg with
  | true =>
    rw [hc] at h
    simp only [cond_true] at h ⊢
    split at h
    · split at h
      · next hz => rw [zcsB_eq hz]; simp
      · cases h
    · cases h
  | false =>
    rw [hc] at h
    simp only [cond_false] at h ⊢
    rw [(zcB_eq h).2]; rfl

def isB (P : Program) (t : TypeId) (c : CK) : Bool :=
  match P.info? t, P.underlying t with
  | some i, some d => Nat.beq i.size c.size && (match i.zero with | some v => zvB c v | none => false) && (isAggD d == c.isAgg)
  | _, _ => false
theorem isB_ok {P : Program} {t : TypeId} {c : CK} (h : isB P t c = true) : TypeIs P t c := by
  unfold isB at h
  split at h
  · next i d h1 h2 =>
    simp only [Bool.and_eq_true, Nat.beq_eq, beq_iff_eq] at h
    obtain ⟨⟨h3, h4⟩, h5⟩ := h
    split at h4
    · next v hv => exact ⟨i, d, h1, h2, h3, by rw [hv, zvB_eq h4], h5⟩
    · cases h4
  · cases h

def fldsB (P : Program) (n : Nat) : List Field → List (Nat × CK) → Bool
  | [], [] => true
  | fl :: Fs, (off, d) :: fs => Nat.beq fl.offset off && isB P fl.type d && Nat.blt 0 d.size && Nat.ble (off + d.size) n && fldsB P n Fs fs
  | _, _ => false
theorem fldsB_len {P : Program} {n : Nat} : ∀ {Fs : List Field} {fs : List (Nat × CK)}, fldsB P n Fs fs = true → Fs.length = fs.length
  | [], [], _ => rfl
  | fl :: Fs, (off, d) :: fs, h => by
    simp only [fldsB, Bool.and_eq_true] at h
    simp [fldsB_len h.2]
  | [], _ :: _, h => by cases h
  | _ :: _, [], h => by cases h
theorem fldsB_at {P : Program} {n : Nat} : ∀ {Fs : List Field} {fs : List (Nat × CK)} (f : Nat) {fl : Field} {off : Nat} {d : CK}, fldsB P n Fs fs = true → Fs[f]? = some fl → fs[f]? = some (off, d) →
    fl.offset = off ∧ TypeIs P fl.type d ∧ 0 < d.size ∧ off + d.size ≤ n
  | [], [], f, fl, off, d, _, h, _ => by simp at h
  | fl :: Fs, (off, d) :: fs, 0, fl', off', d', h, h1, h2 => by
    simp only [fldsB, Bool.and_eq_true, Nat.beq_eq, Nat.blt_eq, Nat.ble_eq] at h
    simp only [List.getElem?_cons_zero, Option.some.injEq, Prod.mk.injEq] at h1 h2
    obtain ⟨⟨⟨⟨a1, a2⟩, a3⟩, a4⟩, _⟩ := h
    obtain ⟨rfl, rfl⟩ := h2
    subst h1
    exact ⟨a1, isB_ok a2, a3, a4⟩
  | fl :: Fs, (off, d) :: fs, f + 1, fl', off', d', h, h1, h2 => by
    simp only [fldsB, Bool.and_eq_true] at h
    exact fldsB_at f h.2 (by simpa using h1) (by simpa using h2)
  | [], _ :: _, _, _, _, _, h, _, _ => by cases h
  | _ :: _, [], _, _, _, _, h, _, _ => by cases h

def entB (P : Program) (t : Nat) : TD → Bool
  | .other => true
  | .map k e => match P.underlying t with
    | some (.map kt et) => isB P et e && e.pl && (match k, P.underlying kt with
      | .int q, some (.int q') => decide (q' = q)
      | .bool, some .bool => true
      | .str, some .string => true
      | _, _ => false)
    | _ => false
  | .val c b fs => isB P t c && (match c with
    | .int k => (match P.underlying t with | some (.int k') => decide (k' = k) | _ => false) && fs.isEmpty
    | .bool => (match P.underlying t with | some .bool => true | _ => false) && fs.isEmpty
    | .str => (match P.underlying t with | some .string => true | _ => false) && fs.isEmpty
    | .sl e => fs.isEmpty && (match P.underlying t with
      | some (.slice et) => isB P et e && Nat.blt 0 e.size && (match P.info? et with | some i => Nat.beq i.bytes b | none => false) &&
          (match e with | .int k => (match P.underlying et with | some (.int k') => decide (k' = k) | _ => false) | _ => true)
      | _ => false)
    | _ => match P.underlying t with | some (.struct ⟨Fs⟩) => fldsB P c.size Fs fs | _ => false)
def ttB (P : Program) : List (Nat × TD) → Bool
  | [] => true
  | (t, d) :: l => entB P t d && ttB P l
theorem ttB_look {P : Program} : ∀ {tt : List (Nat × TD)} {t : Nat} {d : TD}, ttB P tt = true → look tt t = some d → entB P t d = true
  | (u, d') :: l, t, d, h, hl => by
    simp only [ttB, Bool.and_eq_true] at h
    simp only [look] at hl
    cases hb : Nat.beq u t with
    | true =>
      rw [hb] at hl
      simp only [cond_true, Option.some.injEq] at hl
      rw [← hl, ← Nat.eq_of_beq_eq_true hb]; exact h.1
    | false => rw [hb] at hl; exact ttB_look h.2 hl

/-! ### structs that may be compared -/
def eqFB (P : Program) : CK → List Field → Nat → Bool
  | .unit, [], _ => true
  | .pair a b, f :: r, off => !(f.name == "_") && (Nat.beq f.offset off && ((match a, P.underlying f.type with
      | .int q, some (.int q') => decide (q' = q)
      | .bool, some .bool => true
      | .str, some .string => true
      | _, _ => false) && (isB P f.type a && eqFB P b r (off + 1))))
  | _, _, _ => false
theorem eqFB_ok {P : Program} : ∀ {c : CK} {fs : List Field} {off : Nat}, eqFB P c fs off = true → EqF P c fs off
  | .unit, [], _, _ => trivial
  | .pair a b, f :: r, off, h => by
    simp only [eqFB, Bool.and_eq_true, Nat.beq_eq] at h
    obtain ⟨h1, h2, h3, h4, h5⟩ := h
    refine ⟨by simpa using h1, h2, ?_, isB_ok h4, eqFB_ok h5⟩
    split at h3
    · next hq => exact ⟨_, rfl, by rw [hq, of_decide_eq_true h3]⟩
    · next hq => exact ⟨_, rfl, hq⟩
    · next hq => exact ⟨_, rfl, hq⟩
    · cases h3
  | .unit, _ :: _, _, h => by cases h
  | .pair _ _, [], _, h => by cases h
  | .int _, _, _, h => by simp [eqFB] at h
  | .bool, _, _, h => by simp [eqFB] at h
  | .str, _, _, h => by simp [eqFB] at h
  | .sl _, _, _, h => by simp [eqFB] at h
def entE (P : Program) (t : Nat) : TD → Bool
  | .val c _ _ => !c.cmp || (match P.underlying t with
    | some (.struct ⟨Fs⟩) => !P.stoodInHeld t && (!P.eqGuardType P.depth t && eqFB P c Fs 0)
    | _ => false)
  | _ => true
def ttE (P : Program) : List (Nat × TD) → Bool
  | [] => true
  | (t, d) :: l => entE P t d && ttE P l
theorem ttE_look {P : Program} : ∀ {tt : List (Nat × TD)} {t : Nat} {d : TD}, ttE P tt = true → look tt t = some d → entE P t d = true
  | (u, d') :: l, t, d, h, hl => by
    simp only [ttE, Bool.and_eq_true] at h
    simp only [look] at hl
    cases hb : Nat.beq u t with
    | true =>
      rw [hb] at hl
      simp only [cond_true, Option.some.injEq] at hl
      rw [← hl, ← Nat.eq_of_beq_eq_true hb]; exact h.1
    | false => rw [hb] at hl; exact ttE_look h.2 hl
def ttC (P : Program) (tt : List (Nat × TD)) : Bool := ttB P tt && ttE P tt

theorem ttB_ok {P : Program} {tt : List (Nat × TD)} (hh : ttC P tt = true) : TTok P tt := by
  have h : ttB P tt = true := by simp only [ttC, Bool.and_eq_true] at hh; exact hh.1
  have hE : ttE P tt = true := by simp only [ttC, Bool.and_eq_true] at hh; exact hh.2
  have key : ∀ {t c b fs}, look tt t = some (.val c b fs) → entB P t (.val c b fs) = true := fun hl => ttB_look h hl
  constructor
  · intro t c b fs hl
    have := key hl
    simp only [entB, Bool.and_eq_true] at this
    exact isB_ok this.1
  · intro t k b fs hl
    have := key hl
    simp only [entB, Bool.and_eq_true] at this
    obtain ⟨_, h1, _⟩ := this
    split at h1
    · next hu => rw [hu, of_decide_eq_true h1]
    · cases h1
  · intro t b fs hl
    have := key hl
    simp only [entB, Bool.and_eq_true] at this
    obtain ⟨_, h1, _⟩ := this
    split at h1
    · next hu => rw [hu]
    · cases h1
  · intro t b fs hl
    have := key hl
    simp only [entB, Bool.and_eq_true] at this
    obtain ⟨_, h1, _⟩ := this
    split at h1
    · next hu => rw [hu]
    · cases h1
  · intro t k b fs hl
    have := key hl
    simp only [entB, Bool.and_eq_true] at this
    obtain ⟨_, _, h1⟩ := this
    split at h1
    · next et hu =>
      simp only [Bool.and_eq_true] at h1
      obtain ⟨_, h2⟩ := h1
      split at h2
      · next hv => exact ⟨et, hu, by rw [hv, of_decide_eq_true h2]⟩
      · cases h2
    · cases h1
  · intro t e b fs hl
    have := key hl
    simp only [entB, Bool.and_eq_true] at this
    obtain ⟨_, _, h1⟩ := this
    split at h1
    · next et hu =>
      simp only [Bool.and_eq_true, Nat.blt_eq] at h1
      obtain ⟨⟨⟨a1, a2⟩, a3⟩, _⟩ := h1
      split at a3
      · next i hi => exact ⟨et, hu, isB_ok a1, a2, i, hi, Nat.eq_of_beq_eq_true a3⟩
      · cases a3
    · cases h1
  · intro t c b fs f off d hl hf
    have hk := key hl
    have go : ∀ c', c' = c → (match P.underlying t with | some (.struct ⟨Fs⟩) => fldsB P c'.size Fs fs | _ => false) = true → ∃ (Fs : Array Field) (fl : Field), P.underlying t = some (.struct Fs) ∧ Fs[f]? = some fl ∧ fl.offset = off ∧ TypeIs P fl.type d ∧ 0 < d.size ∧ off + d.size ≤ c.size := by
      intro c' hc h1
      subst hc
      split at h1
      · next Fs hu =>
        have hlt : f < Fs.length := by rw [fldsB_len h1]; exact (List.getElem?_eq_some_iff.1 hf).1
        obtain ⟨a1, a2, a3, a4⟩ := fldsB_at f h1 (List.getElem?_eq_getElem hlt) hf
        exact ⟨⟨Fs⟩, Fs[f], hu, by simp [hlt], a1, a2, a3, a4⟩
      · cases h1
    cases c with
    | unit => simp only [entB, Bool.and_eq_true] at hk; exact go _ rfl hk.2
    | pair a b' => simp only [entB, Bool.and_eq_true] at hk; exact go _ rfl hk.2
    | int k => simp only [entB, Bool.and_eq_true] at hk; have := hk.2.2; rw [List.isEmpty_iff] at this; subst this; simp at hf
    | bool => simp only [entB, Bool.and_eq_true] at hk; have := hk.2.2; rw [List.isEmpty_iff] at this; subst this; simp at hf
    | str => simp only [entB, Bool.and_eq_true] at hk; have := hk.2.2; rw [List.isEmpty_iff] at this; subst this; simp at hf
    | sl e => simp only [entB, Bool.and_eq_true] at hk; have := hk.2.1; rw [List.isEmpty_iff] at this; subst this; simp at hf
  · intro t c b fs hl hc
    have hk := key hl
    have go : ∀ c', c' = c → (match P.underlying t with | some (.struct ⟨Fs⟩) => fldsB P c'.size Fs fs | _ => false) = true → ∃ Fs : Array Field, P.underlying t = some (.struct Fs) ∧ Fs.size = fs.length ∧
    ∀ (f : Nat) (fl : Field), Fs[f]? = some fl → ∃ off d, fs[f]? = some (off, d) ∧ fl.offset = off ∧ TypeIs P fl.type d ∧ off + d.size ≤ c.size := by
      intro c' hc h1
      subst hc
      split at h1
      · next Fs hu =>
        refine ⟨⟨Fs⟩, hu, by simpa using fldsB_len h1, fun f fl hfl => ?_⟩
        have hfl : Fs[f]? = some fl := by simpa using hfl
        have hlt : f < fs.length := by rw [← fldsB_len h1]; exact (List.getElem?_eq_some_iff.1 hfl).1
        obtain ⟨a1, a2, a3, a4⟩ := fldsB_at f (d := (fs[f]).2) (off := (fs[f]).1) h1 hfl (List.getElem?_eq_getElem hlt)
        exact ⟨_, _, List.getElem?_eq_getElem hlt, a1, a2, a4⟩
      · cases h1
    cases c with
    | unit => simp only [entB, Bool.and_eq_true] at hk; exact go _ rfl hk.2
    | pair a b' => simp only [entB, Bool.and_eq_true] at hk; exact go _ rfl hk.2
    | _ => cases hc
  · intro t c b fs hl hc
    have hk := ttE_look hE hl
    simp only [entE, hc, Bool.not_true, Bool.false_or] at hk
    split at hk
    · next Fs hu =>
      simp only [Bool.and_eq_true, Bool.not_eq_true'] at hk
      exact ⟨Fs, hu, hk.1, hk.2.1, eqFB_ok hk.2.2⟩
    · cases hk
  · intro t k e hl
    have hk := ttB_look h hl
    simp only [entB] at hk
    split at hk
    · next kt et hu =>
      simp only [Bool.and_eq_true] at hk
      obtain ⟨⟨a1, a2⟩, a3⟩ := hk
      split at a3
      · next hq => exact ⟨kt, et, _, hu, rfl, by rw [hq, of_decide_eq_true a3], isB_ok a1, a2⟩
      · next hq => exact ⟨kt, et, _, hu, rfl, hq, isB_ok a1, a2⟩
      · next hq => exact ⟨kt, et, _, hu, rfl, hq, isB_ok a1, a2⟩
      · cases a3
    · cases hk
end VM
