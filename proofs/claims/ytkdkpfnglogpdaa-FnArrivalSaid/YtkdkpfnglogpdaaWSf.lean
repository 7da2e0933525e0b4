/- Events, sorted and each once. -/
import Derived.Test.YtkdkpfnglogpdaaWSe
import Derived.Test.YtkdkpfnglogpdaaVQe
set_option linter.unusedVariables false
set_option linter.unusedSimpArgs false
namespace VM
open Go

def isEv (k : Nat) (e : TEv) : Bool :=
  inB e.1 1 9999 && (inB e.2.1 0 999 && (isC k e.2.2.2.1 &&
    (if e.2.2.1 = 1 ∨ e.2.2.1 = 3 ∨ e.2.2.1 = 4 then inB e.2.2.2.2.1 1 100000 && (inB e.2.2.2.2.2.1 1 100000 && decide (e.2.2.2.2.2.2.1 = 0))
     else if e.2.2.1 = 2 then inB e.2.2.2.2.1 1 100000 && (decide (e.2.2.2.2.2.1 = 0) && decide (e.2.2.2.2.2.2.1 = 0))
     else if e.2.2.1 = 5 then decide (e.2.2.2.2.1 = 0) && (inB e.2.2.2.2.2.1 (-100000) 100000 && (!decide (e.2.2.2.2.2.1 = 0) && inB e.2.2.2.2.2.2.1 1 9999))
     else false)))

theorem spec_IsEvent_eq {k : Nat} {e : TEv} (hk : e.2.2.2.1.length < k) (hl : e.2.2.2.1.length < 1099511627776) : VF.spec_IsEvent k e = some ((isEv k e, ()), ()) := by
  unfold VF.spec_IsEvent
  simp only [join_eq, l1In_eq, bnd_some']
  rw [isC_eq hk hl]
  simp only [bnd_some', VF.spec_IsEvent.j1, VF.spec_IsEvent.j0, join_eq, l1In_eq]
  unfold isEv
  cases inB e.1 1 9999 <;> simp only [Bool.not_true, Bool.not_false, sel_true, sel_false, Bool.false_and, Bool.true_and]
  cases inB e.2.1 0 999 <;> simp only [Bool.not_true, Bool.not_false, sel_true, sel_false, Bool.false_and, Bool.true_and]
  cases isC k e.2.2.2.1 <;> simp only [Bool.not_true, Bool.not_false, sel_true, sel_false, Bool.false_and, Bool.true_and]
  cases inB e.2.2.2.2.1 1 100000 <;> cases inB e.2.2.2.2.2.1 1 100000 <;> cases inB e.2.2.2.2.2.1 (-100000) 100000 <;>
  by_cases h1 : e.2.2.1 = 1 <;> by_cases h3 : e.2.2.1 = 3 <;> by_cases h4 : e.2.2.1 = 4 <;> by_cases h2 : e.2.2.1 = 2 <;> by_cases h5 : e.2.2.1 = 5 <;> first
    | (exfalso; omega)
    | (by_cases h6 : e.2.2.2.2.2.2.1 = 0 <;> by_cases h7 : e.2.2.2.2.2.1 = 0 <;> by_cases h8 : e.2.2.2.2.1 = 0 <;> simp [h1, h2, h3, h4, h5, h6, h7, h8])

theorem isEvent_same (k : Nat) (e : TEv) : VF.impl_IsEvent k e = VF.spec_IsEvent k e := rfl
theorem impl_IsEvent_eq {k : Nat} {e : TEv} (hk : e.2.2.2.1.length < k) (hl : e.2.2.2.1.length < 1099511627776) : VF.impl_IsEvent k e = some ((isEv k e, ()), ()) := by rw [isEvent_same, spec_IsEvent_eq hk hl]

/-- Events whose names are short. -/
def SmV (l : List TEv) : Prop := ∀ e ∈ l, e.2.2.2.1.length ≤ 1048576

/-! ### each once -/
def dd (out : List TEv) (x : TEv) : List TEv := if out.any (fun o => decide (o.1 = x.1)) = true then out else out ++ [x]
/-- What is sorted of some events. -/
def Chr (R V : List TEv) : Prop := R.Pairwise ltE ∧ ∀ e, e ∈ R ↔ e ∈ V ∧ ∀ e' ∈ V, e'.1 = e.1 → ¬ ltE e' e

theorem Chr.nodup {R V : List TEv} (h : Chr R V) : R.Nodup := h.1.imp (fun {a b} (q : ltE a b) (e : a = b) => ltE_irrefl a (by rw [← e] at q; exact q))
theorem Chr.srt {R V : List TEv} (h : Chr R V) : Srt R := h.1.imp (fun {a b} q => ltE_asymm q)
theorem Chr.unique {R R' V V' : List TEv} (h : Chr R V) (h' : Chr R' V') (hv : ∀ e, e ∈ V ↔ e ∈ V') : R = R' := by
  refine srt_unique h.srt h'.srt ((List.perm_ext_iff_of_nodup h.nodup h'.nodup).2 fun e => ?_)
  rw [h.2, h'.2, hv]
  simp only [hv]
theorem Chr.ids {R V : List TEv} (h : Chr R V) {a b : TEv} (ha : a ∈ R) (hb : b ∈ R) (e : a.1 = b.1) : a = b := by
  have h1 := (h.2 a).1 ha
  have h2 := (h.2 b).1 hb
  exact ltE_tri (h2.2 a h1.1 e) (h1.2 b h2.1 e.symm)

theorem min_ex {V : List TEv} {e : TEv} (h : e ∈ V) : ∃ m ∈ V, m.1 = e.1 ∧ ∀ e' ∈ V, e'.1 = m.1 → ¬ ltE e' m := by
  induction V using snoc_ind with
  | h0 => simp at h
  | h1 V x ih =>
    by_cases hv : e ∈ V
    · obtain ⟨m, h1, h2, h3⟩ := ih hv
      by_cases hx : x.1 = m.1 ∧ ltE x m
      · refine ⟨x, by simp, hx.1.trans h2, ?_⟩
        intro e' he' hi
        rcases List.mem_append.1 he' with he' | he'
        · intro q
          exact h3 e' he' (hi.trans hx.1) (ltE_trans q hx.2)
        · simp at he'; subst he'; exact ltE_irrefl _
      · refine ⟨m, by simp [h1], h2, ?_⟩
        intro e' he' hi
        rcases List.mem_append.1 he' with he' | he'
        · exact h3 e' he' hi
        · simp at he'; subst he'; exact fun q => hx ⟨hi, q⟩
    · have : e = x := by
        rcases List.mem_append.1 h with h | h
        · exact absurd h hv
        · simpa using h
      subst this
      by_cases hy : ∃ y ∈ V, y.1 = e.1
      · obtain ⟨y, hy, hy2⟩ := hy
        -- take the smallest of y's
        have key : ∀ W : List TEv, (∃ y ∈ W, y.1 = e.1) → ∃ m ∈ W, m.1 = e.1 ∧ ∀ e' ∈ W, e'.1 = m.1 → ¬ ltE e' m := by
          intro W
          induction W using snoc_ind with
          | h0 => rintro ⟨y, h, _⟩; simp at h
          | h1 W x ih2 =>
            rintro ⟨y, hy, hyi⟩
            by_cases hw : ∃ y ∈ W, y.1 = e.1
            · obtain ⟨m, h1, h2, h3⟩ := ih2 hw
              by_cases hx : x.1 = m.1 ∧ ltE x m
              · refine ⟨x, by simp, hx.1.trans h2, ?_⟩
                intro e' he' hi
                rcases List.mem_append.1 he' with he' | he'
                · intro q
                  exact h3 e' he' (hi.trans hx.1) (ltE_trans q hx.2)
                · simp at he'; subst he'; exact ltE_irrefl _
              · refine ⟨m, by simp [h1], h2, ?_⟩
                intro e' he' hi
                rcases List.mem_append.1 he' with he' | he'
                · exact h3 e' he' hi
                · simp at he'; subst he'; exact fun q => hx ⟨hi, q⟩
            · have : y = x := by
                rcases List.mem_append.1 hy with h | h
                · exact absurd ⟨y, h, hyi⟩ hw
                · simpa using h
              subst this
              refine ⟨y, by simp, hyi, ?_⟩
              intro e' he' hi
              rcases List.mem_append.1 he' with he' | he'
              · exact absurd ⟨e', he', hi.trans hyi⟩ hw
              · simp at he'; subst he'; exact ltE_irrefl _
        exact key (V ++ [e]) ⟨y, by simp [hy], hy2⟩
      · refine ⟨e, by simp, rfl, ?_⟩
        intro e' he' hi
        rcases List.mem_append.1 he' with he' | he'
        · exact absurd ⟨e', he', hi⟩ hy
        · simp at he'; subst he'; exact ltE_irrefl _

theorem dd_chr {Z : List TEv} (hz : Srt Z) : Chr (Z.foldl dd []) Z := by
  induction Z using snoc_ind with
  | h0 => exact ⟨by simp, by simp⟩
  | h1 Z x ih =>
    have hz' := List.pairwise_append.1 hz
    have hx : ∀ y ∈ Z, ¬ ltE x y := fun y hy => hz'.2.2 y hy x (by simp)
    have hc := ih hz'.1
    rw [List.foldl_append, List.foldl_cons, List.foldl_nil]
    generalize Z.foldl dd [] = R at hc ⊢
    unfold dd
    by_cases ha : R.any (fun o => decide (o.1 = x.1)) = true
    · rw [if_pos ha]
      simp only [List.any_eq_true, decide_eq_true_eq] at ha
      obtain ⟨o, ho, hoi⟩ := ha
      refine ⟨hc.1, fun e => ?_⟩
      have ho2 := (hc.2 o).1 ho
      constructor
      · intro he
        have h2 := (hc.2 e).1 he
        refine ⟨by simp [h2.1], ?_⟩
        intro e' he' hi
        rcases List.mem_append.1 he' with he' | he'
        · exact h2.2 e' he' hi
        · simp at he'; subst he'; exact hx e h2.1
      · rintro ⟨he, hm⟩
        rcases List.mem_append.1 he with he | he
        · exact (hc.2 e).2 ⟨he, fun e' h' hi => hm e' (by simp [h']) hi⟩
        · simp at he; subst he
          have : o = e := ltE_tri (hm o (by simp [ho2.1]) hoi) (hx o ho2.1)
          subst this; exact ho
    · rw [if_neg ha]
      simp only [List.any_eq_true, decide_eq_true_eq, not_exists, not_and] at ha
      have hn : ∀ y ∈ Z, y.1 ≠ x.1 := by
        intro y hy hi
        obtain ⟨m, h1, h2, h3⟩ := min_ex hy
        exact ha m ((hc.2 m).2 ⟨h1, h3⟩) (h2.trans hi)
      refine ⟨List.pairwise_append.2 ⟨hc.1, by simp, ?_⟩, fun e => ?_⟩
      · intro r hr y hy
        simp at hy; subst hy
        have hr2 := (hc.2 r).1 hr
        by_cases q : ltE r y
        · exact q
        · exact absurd (by rw [ltE_tri q (hx r hr2.1)]) (hn r hr2.1)
      · constructor
        · intro he
          rcases List.mem_append.1 he with he | he
          · have h2 := (hc.2 e).1 he
            refine ⟨by simp [h2.1], ?_⟩
            intro e' he' hi
            rcases List.mem_append.1 he' with he' | he'
            · exact h2.2 e' he' hi
            · simp at he'; subst he'; exact hx e h2.1
          · simp at he; subst he
            refine ⟨by simp, ?_⟩
            intro e' he' hi
            rcases List.mem_append.1 he' with he' | he'
            · exact absurd hi (hn e' he')
            · simp at he'; subst he'; exact ltE_irrefl _
        · rintro ⟨he, hm⟩
          rcases List.mem_append.1 he with he | he
          · exact List.mem_append.2 (.inl ((hc.2 e).2 ⟨he, fun e' h' hi => hm e' (by simp [h']) hi⟩))
          · exact List.mem_append.2 (.inr he)

/-! ### put in -/
def insE (l : List TEv) (e : TEv) : List TEv := l.takeWhile (fun o => decide (ltE o e)) ++ e :: l.dropWhile (fun o => decide (ltE o e))
def putE (l : List TEv) (e : TEv) : List TEv := if l.any (fun o => decide (o.1 = e.1) && !decide (ltE e o)) = true then l else insE (l.filter (fun o => !decide (o.1 = e.1))) e

theorem mem_insE {l : List TEv} {e x : TEv} : x ∈ insE l e ↔ x = e ∨ x ∈ l := by
  unfold insE
  have : x ∈ l ↔ x ∈ l.takeWhile (fun o => decide (ltE o e)) ∨ x ∈ l.dropWhile (fun o => decide (ltE o e)) := by
    rw [← List.mem_append, List.takeWhile_append_dropWhile]
  rw [this]
  simp only [List.mem_append, List.mem_cons]
  constructor
  · rintro (h | h | h)
    · exact .inr (.inl h)
    · exact .inl h
    · exact .inr (.inr h)
  · rintro (h | h | h)
    · exact .inr (.inl h)
    · exact .inl h
    · exact .inr (.inr h)

theorem insE_srt : ∀ {l : List TEv} {e : TEv}, l.Pairwise ltE → (∀ o ∈ l, o ≠ e) → (insE l e).Pairwise ltE := by
  intro l
  induction l with
  | nil => intro e _ _; simp [insE]
  | cons o l ih =>
    intro e h hn
    have hp := List.pairwise_cons.1 h
    have hne : o ≠ e := hn o (by simp)
    unfold insE
    by_cases q : ltE o e
    · simp only [List.takeWhile_cons, List.dropWhile_cons, q, decide_true, if_true, List.cons_append]
      refine List.pairwise_cons.2 ⟨?_, ih hp.2 (fun o ho => hn o (by simp [ho]))⟩
      intro y hy
      rcases mem_insE.1 hy with rfl | hy
      · exact q
      · exact hp.1 y hy
    · simp only [List.takeWhile_cons, List.dropWhile_cons, q, decide_false, Bool.false_eq_true, if_false, List.nil_append]
      have hlt : ltE e o := by
        by_cases q2 : ltE e o
        · exact q2
        · exact absurd (ltE_tri q q2) hne
      refine List.pairwise_cons.2 ⟨?_, h⟩
      intro y hy
      rcases List.mem_cons.1 hy with rfl | hy
      · exact hlt
      · exact ltE_trans hlt (hp.1 y hy)

theorem put_chr {R V : List TEv} (h : Chr R V) (x : TEv) : Chr (putE R x) (V ++ [x]) := by
  unfold putE
  by_cases ha : R.any (fun o => decide (o.1 = x.1) && !decide (ltE x o)) = true
  · rw [if_pos ha]
    simp only [List.any_eq_true, Bool.and_eq_true, decide_eq_true_eq, Bool.not_eq_true', decide_eq_false_iff_not] at ha
    obtain ⟨o, ho, hoi, hox⟩ := ha
    have ho2 := (h.2 o).1 ho
    refine ⟨h.1, fun e => ?_⟩
    constructor
    · intro he
      have h2 := (h.2 e).1 he
      refine ⟨by simp [h2.1], ?_⟩
      intro e' he' hi
      rcases List.mem_append.1 he' with he' | he'
      · exact h2.2 e' he' hi
      · simp at he'; subst he'
        rw [h.ids he ho (hi.symm.trans hoi.symm)]
        exact hox
    · rintro ⟨he, hm⟩
      rcases List.mem_append.1 he with he | he
      · exact (h.2 e).2 ⟨he, fun e' h' hi => hm e' (by simp [h']) hi⟩
      · simp at he; subst he
        have : o = e := ltE_tri (hm o (by simp [ho2.1]) hoi) hox
        subst this; exact ho
  · rw [if_neg ha]
    simp only [List.any_eq_true, Bool.and_eq_true, decide_eq_true_eq, Bool.not_eq_true', decide_eq_false_iff_not, not_exists, not_and, Decidable.not_not] at ha
    have hmin : ∀ y ∈ V, y.1 = x.1 → ltE x y := by
      intro y hy hi
      obtain ⟨m, h1, h2, h3⟩ := min_ex hy
      have hlt := ha m ((h.2 m).2 ⟨h1, h3⟩) (h2.trans hi)
      by_cases q : ltE x y
      · exact q
      · exact absurd hlt (leE_trans (h3 y hy h2.symm) q)
    refine ⟨insE_srt (h.1.filter _) ?_, fun e => ?_⟩
    · intro o ho e
      have := (List.mem_filter.1 ho).2
      rw [e] at this
      simp at this
    · rw [mem_insE, List.mem_filter]
      constructor
      · rintro (rfl | ⟨he, hi⟩)
        · refine ⟨by simp, ?_⟩
          intro e' he' hi
          rcases List.mem_append.1 he' with he' | he'
          · exact ltE_asymm (hmin e' he' hi)
          · simp at he'; subst he'; exact ltE_irrefl _
        · have h2 := (h.2 e).1 he
          refine ⟨by simp [h2.1], ?_⟩
          intro e' he' hi'
          rcases List.mem_append.1 he' with he' | he'
          · exact h2.2 e' he' hi'
          · simp at he'; subst he'; simp [hi'] at hi
      · rintro ⟨he, hm⟩
        by_cases hi : e.1 = x.1
        · left
          rcases List.mem_append.1 he with he | he
          · exact absurd (hmin e he hi) (hm x (by simp) hi.symm)
          · simpa using he
        · right
          rcases List.mem_append.1 he with he | he
          · exact ⟨(h.2 e).2 ⟨he, fun e' h' hi => hm e' (by simp [h']) hi⟩, by simp [hi]⟩
          · simp at he; subst he; exact absurd rfl hi

def sortE (V : List TEv) : List TEv := V.foldl putE []
theorem sortE_chr (V : List TEv) : Chr (sortE V) V := by
  induction V using snoc_ind with
  | h0 => exact ⟨by simp [sortE], by simp [sortE]⟩
  | h1 V x ih => rw [sortE, List.foldl_append]; exact put_chr ih x
theorem sortE_perm {V V' : List TEv} (hv : ∀ e, e ∈ V ↔ e ∈ V') : sortE V = sortE V' := (sortE_chr V).unique (sortE_chr V') hv
theorem dd_sortE {Z V : List TEv} (hz : Srt Z) (hp : Z.Perm V) : Z.foldl dd [] = sortE V := (dd_chr hz).unique (sortE_chr V) fun e => hp.mem_iff
/-- What SortEvents answers. -/
def sortV (k : Nat) (l : List TEv) : List TEv := if l.length ≤ 100 then sortE (l.filter (isEv k)) else []
end VM
