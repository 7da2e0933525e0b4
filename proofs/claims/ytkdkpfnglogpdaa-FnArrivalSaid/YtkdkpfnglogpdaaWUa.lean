/- What is drawn: events. -/
import Derived.Test.YtkdkpfnglogpdaaWTe
import Derived.Test.YtkdkpfnglogpdaaWU0
set_option linter.unusedVariables false
set_option linter.unusedSimpArgs false
namespace VM
open Go

def E8 (e : TEv) : Prop := e.2.2.2.1.length ≤ 8
def Evs (n : Nat) (l : List TEv) : Prop := l.length ≤ n ∧ ∀ e ∈ l, E8 e
theorem Evs.sm {n : Nat} {l : List TEv} (h : Evs n l) : SmV l := fun e he => by have := h.2 e he; unfold E8 at this; omega

theorem event_D (k : Nat) {c : Cur} (hc : CurOk c) (id : Int) : Dr (VF.spec_l36Event k c id) E8 := by
  obtain ⟨b, i, h, ⟨⟩⟩ := c
  have hJ : ∀ (b : List Int) (i h : Int) (z : Int × Int × Int × List UInt8 × Int × Int × Int) (a1 a2 a3 : Int) (a4 : List UInt8) (a5 a6 a7 : Int), CurOk (b, i, h, ()) → a4.length ≤ 8 → Dr (VF.spec_l36Event.j0 k ((b, i, h), z, a1, a2, a3, a4, a5, a6, a7)) E8 := by
    intro b i h z a1 a2 a3 a4 a5 a6 a7 hc ha
    unfold VF.spec_l36Event.j0
    obtain ⟨v, ⟨b', i', h', ⟨⟩⟩, e, ok, q⟩ := below_D k hc 40 (by omega)
    rw [e]
    simp only [bnd_some']
    cases decide (v = 0) with
    | true =>
      simp only [sel_true]
      obtain ⟨v, ⟨b', i', h', ⟨⟩⟩, e, ok, q⟩ := odd_D k ok
      rw [e]
      exact ⟨_, _, rfl, ok, ha⟩
    | false =>
      simp only [sel_false]
      cases decide (v = 1) with
      | true =>
        simp only [sel_true]
        obtain ⟨v, ⟨b', i', h', ⟨⟩⟩, e, ok, q⟩ := odd_D k ok
        rw [e]
        exact ⟨_, _, rfl, ok, ha⟩
      | false =>
        simp only [sel_false]
        cases decide (v = 2) with
        | true =>
          simp only [sel_true]
          obtain ⟨v, ⟨b', i', h', ⟨⟩⟩, e, ok, q⟩ := pickInt_D k ok [0, 6, -1] (by simp) (by simp)
          rw [e]
          exact ⟨_, _, rfl, ok, ha⟩
        | false =>
          simp only [sel_false]
          cases decide (v = 3) with
          | true =>
            simp only [sel_true]
            obtain ⟨v, ⟨b', i', h', ⟨⟩⟩, e, ok, q⟩ := day_D k ok
            rw [e]
            exact ⟨_, _, rfl, ok, ha⟩
          | false => exact ⟨_, _, rfl, ok, ha⟩
  unfold VF.spec_l36Event
  obtain ⟨v, ⟨b, i, h, ⟨⟩⟩, e, hc, q⟩ := below_D k hc 12 (by omega)
  rw [e]
  simp only [bnd_some']
  obtain ⟨v1, ⟨b, i, h, ⟨⟩⟩, e, hc, q1⟩ := below_D k hc 5 (by omega)
  rw [e]
  simp only [bnd_some']
  obtain ⟨v2, ⟨b, i, h, ⟨⟩⟩, e, hc, q2⟩ := pick_D k hc [[65], [65], [66]] (by simp) (by simp)
  rw [e]
  simp only [bnd_some']
  have h2 : v2.length ≤ 8 := by
    simp only [List.mem_cons, List.not_mem_nil, or_false] at q2
    rcases q2 with rfl | rfl | rfl <;> simp
  obtain ⟨v3, ⟨b, i, h, ⟨⟩⟩, e, hc, q3⟩ := below_D k hc 9 (by omega)
  rw [e]
  simp only [bnd_some']
  obtain ⟨v4, ⟨b, i, h, ⟨⟩⟩, e, hc, q4⟩ := below_D k hc 90 (by omega)
  rw [e]
  simp only [bnd_some', join_eq]
  cases decide (IntKind.wrap .i64 (1 + v1) = 2) with
  | true => exact hJ _ _ _ _ _ _ _ _ _ _ _ hc h2
  | false =>
    simp only [sel_false]
    cases decide (IntKind.wrap .i64 (1 + v1) = 5) with
    | true =>
      simp only [sel_true]
      obtain ⟨v5, ⟨b, i, h, ⟨⟩⟩, e, hc, q5⟩ := below_D k hc 6 (by omega)
      rw [e]
      simp only [bnd_some']
      obtain ⟨v6, ⟨b, i, h, ⟨⟩⟩, e, hc, q6⟩ := below_D k hc 60 (by omega)
      rw [e]
      exact hJ _ _ _ _ _ _ _ _ _ _ _ hc h2
    | false =>
      simp only [sel_false]
      cases decide (IntKind.wrap .i64 (1 + v1) = 3) with
      | true =>
        simp only [sel_true]
        obtain ⟨v5, ⟨b, i, h, ⟨⟩⟩, e, hc, q5⟩ := below_D k hc 12 (by omega)
        rw [e]
        exact hJ _ _ _ _ _ _ _ _ _ _ _ hc h2
      | false => exact hJ _ _ _ _ _ _ _ _ _ _ _ hc h2

theorem Evs.snoc {n : Nat} {l : List TEv} (h : Evs n l) {e : TEv} (he : E8 e) : Evs (n + 1) (l ++ [e]) :=
  ⟨by have := h.1; simp; omega, fun x hx => by
    rcases List.mem_append.1 hx with hx | hx
    · exact h.2 x hx
    · simp at hx; subst hx; exact he⟩
theorem Evs.mono {n m : Nat} {l : List TEv} (h : Evs n l) (hn : n ≤ m) : Evs m l := ⟨by have := h.1; omega, h.2⟩

theorem events_D (k : Nat) (hk : 100 < k) {c : Cur} (hc : CurOk c) : Dr (VF.spec_l36Events k c) (Evs 9) := by
  obtain ⟨b, i, h, ⟨⟩⟩ := c
  unfold VF.spec_l36Events
  obtain ⟨v, ⟨b, i, h, ⟨⟩⟩, e, hc, q⟩ := below_D k hc 9 (by omega)
  simp only [join_eq]
  rw [e]
  simp only [bnd_some']
  have q9 := q.2 (by omega)
  have q0 := q.1
  have key : ∀ (n : Nat) (v : Int) (b : List Int) (i h : Int) (l : List TEv), v = (n : Int) → n ≤ 9 → CurOk (b, i, h, ()) → Evs (9 - n) l → ∀ m, n < m → Dr (iter (VF.spec_l36Events.l2 k VF.spec_l36Events.j0) m ((b, i, h), l, v)) (Evs 9) := by
    intro n
    induction n with
    | zero =>
      intro v b i h l hv hn hc hl m hm
      obtain ⟨m, rfl⟩ : ∃ p, m = p + 1 := ⟨m - 1, by omega⟩
      rw [iter_succ]
      unfold VF.spec_l36Events.l2
      have c1 : decide (0 < v) = false := by simp; omega
      simp only [c1, sel_false, VF.spec_l36Events.j0]
      exact ⟨_, _, rfl, hc, hl.mono (by omega)⟩
    | succ n ih =>
      intro v b i h l hv hn hc hl m hm
      obtain ⟨m, rfl⟩ : ∃ p, m = p + 1 := ⟨m - 1, by omega⟩
      rw [iter_succ]
      have hIH := fun v b i h l h1 h2 h3 h4 => ih v b i h l h1 h2 h3 h4 m (by omega)
      generalize iter (VF.spec_l36Events.l2 k VF.spec_l36Events.j0) m = I at *
      have hll := hl.1
      have hJ : ∀ (b : List Int) (i h : Int) (e : TEv) (t : Bool), CurOk (b, i, h, ()) → E8 e → Dr (VF.spec_l36Events.j1 k I ((b, i, h), l, v, (e.1, e.2.1, e.2.2.1, e.2.2.2.1, e.2.2.2.2.1, e.2.2.2.2.2.1, e.2.2.2.2.2.2.1), t)) (Evs 9) := by
        intro b i h e t hc he
        unfold VF.spec_l36Events.j1
        have hw : IntKind.wrap .i64 (v - 1) = (n : Int) := by rw [w64 (by omega) (by omega)]; omega
        simp only [hw]
        rw [fits_of (by decide) (by omega)]
        cases t with
        | false =>
          simp only [sel_false, grd_true]
          exact hIH _ _ _ _ _ rfl (by omega) hc ((hl.snoc he).mono (by omega))
        | true =>
          simp only [sel_true]
          obtain ⟨v, ⟨b, i, h, ⟨⟩⟩, e1, hc, q⟩ := below_D k hc 3 (by omega)
          rw [e1]
          simp only [bnd_some']
          obtain ⟨v2, ⟨b, i, h, ⟨⟩⟩, e1, hc, q2⟩ := pick_D k hc [[65], [66]] (by simp) (by simp)
          rw [e1]
          simp only [bnd_some']
          have h2 : v2.length ≤ 8 := by
            simp only [List.mem_cons, List.not_mem_nil, or_false] at q2
            rcases q2 with rfl | rfl <;> simp
          obtain ⟨v3, ⟨b, i, h, ⟨⟩⟩, e1, hc, q⟩ := below_D k hc 20 (by omega)
          rw [e1]
          simp only [bnd_some']
          obtain ⟨v4, ⟨b, i, h, ⟨⟩⟩, e1, hc, q⟩ := below_D k hc 300 (by omega)
          rw [e1]
          simp only [bnd_some', grd_true]
          exact hIH _ _ _ _ _ rfl (by omega) hc ((hl.snoc (e := (_, _, _, v2, _, _, _, ())) h2).mono (by omega))
      unfold VF.spec_l36Events.l2
      have c1 : decide (0 < v) = true := by simp; omega
      simp only [c1, sel_true, join_eq]
      obtain ⟨ev, ⟨b, i, h, ⟨⟩⟩, e1, hc, q⟩ := event_D k hc (IntKind.wrap .i64 (1 + (l.length : Int)))
      rw [e1]
      simp only [bnd_some']
      cases decide ((l.length : Int) < 2) with
      | false => exact hJ _ _ _ ev false hc q
      | true =>
        simp only [sel_true]
        obtain ⟨v, ⟨b, i, h, ⟨⟩⟩, e1, hc, q2⟩ := once_D k hc 5 (by omega)
        rw [e1]
        exact hJ _ _ _ ev (!v) hc q
  exact key v.toNat v b i h [] (by omega) (by omega) hc ⟨by simp, by simp⟩ k (by omega)

theorem rdE8 {n : Nat} {l : List TEv} (h : Evs n l) (i : Int) : E8 (rdL l i E0) := by
  unfold rdL
  by_cases hi : i.toNat < l.length
  · rw [List.getD_eq_getElem?_getD, List.getElem?_eq_getElem hi]
    exact h.2 _ (List.getElem_mem hi)
  · rw [List.getD_eq_getElem?_getD, List.getElem?_eq_none (by omega)]
    simp [E8]

theorem levents_D (k : Nat) (hk : 1000 < k) {c : Cur} (hc : CurOk c) : Dr (VF.spec_l37Events k c) (Evs 27) := by
  obtain ⟨b, i, h, ⟨⟩⟩ := c
  unfold VF.spec_l37Events
  obtain ⟨L, ⟨b, i, h, ⟨⟩⟩, e, hc, hL⟩ := events_D k (by omega) hc
  rw [e]
  simp only [bnd_some', join_eq]
  have hLl := hL.1
  have key : ∀ (n : Nat) (v : Int) (b : List Int) (i h : Int) (l : List TEv), v + (n : Int) = (L.length : Int) → 0 ≤ v → CurOk (b, i, h, ()) → Evs (27 - 3 * n) l → ∀ m, n < m → Dr (iter (VF.spec_l37Events.l2 k VF.spec_l37Events.j0) m ((b, i, h), L, l, v)) (Evs 27) := by
    intro n
    induction n with
    | zero =>
      intro v b i h l hv hn hc hl m hm
      obtain ⟨m, rfl⟩ : ∃ p, m = p + 1 := ⟨m - 1, by omega⟩
      rw [iter_succ]
      unfold VF.spec_l37Events.l2
      have c1 : decide (v < (L.length : Int)) = false := by simp; omega
      simp only [c1, sel_false, VF.spec_l37Events.j0]
      exact ⟨_, _, rfl, hc, hl.mono (by omega)⟩
    | succ n ih =>
      intro v b i h l hv hn hc hl m hm
      obtain ⟨m, rfl⟩ : ∃ p, m = p + 1 := ⟨m - 1, by omega⟩
      rw [iter_succ]
      have hIH := fun v b i h l h1 h2 h3 h4 => ih v b i h l h1 h2 h3 h4 m (by omega)
      generalize iter (VF.spec_l37Events.l2 k VF.spec_l37Events.j0) m = I at *
      have hll := hl.1
      have hw : IntKind.wrap .i64 (v + 1) = v + 1 := by rw [w64 (by omega) (by omega)]
      have hJ : ∀ (b : List Int) (i h : Int) (l : List TEv), CurOk (b, i, h, ()) → Evs (27 - 3 * n - 1) l → Dr (VF.spec_l37Events.j1 k I ((b, i, h), L, l, v)) (Evs 27) := by
        intro b i h l hc hl
        have hll := hl.1
        unfold VF.spec_l37Events.j1
        obtain ⟨t, ⟨b, i, h, ⟨⟩⟩, e1, hc, q⟩ := once_D k hc 16 (by omega)
        rw [e1]
        simp only [bnd_some', hw]
        cases t with
        | false =>
          simp only [sel_false]
          exact hIH _ _ _ _ _ (by omega) (by omega) hc (hl.mono (by omega))
        | true =>
          simp only [sel_true]
          obtain ⟨u, ⟨b, i, h, ⟨⟩⟩, e1, hc, q⟩ := below_D k hc (v + 1) (by omega)
          rw [e1]
          have q2 := q.2 (by omega)
          simp only [bnd_some']
          rw [inb_of q.1 (by omega), fits_of (by decide) (by omega)]
          simp only [grd_true]
          have hn2 : Evs (27 - 3 * n) (l ++ [((rdL L u E0).1, (rdL L u E0).2.1, (rdL L u E0).2.2.1, (rdL L u E0).2.2.2.1, (rdL L u E0).2.2.2.2.1, IntKind.wrap .i64 ((rdL L u E0).2.2.2.2.2.1 + 1), (rdL L u E0).2.2.2.2.2.2.1, ())]) :=
            (hl.snoc (e := ((rdL L u E0).1, (rdL L u E0).2.1, (rdL L u E0).2.2.1, (rdL L u E0).2.2.2.1, (rdL L u E0).2.2.2.2.1, IntKind.wrap .i64 ((rdL L u E0).2.2.2.2.2.1 + 1), (rdL L u E0).2.2.2.2.2.2.1, ())) (rdE8 hL u)).mono (by omega)
          exact hIH _ _ _ _ _ (by omega) (by omega) hc hn2
      unfold VF.spec_l37Events.l2
      have c1 : decide (v < (L.length : Int)) = true := by simp; omega
      simp only [c1, sel_true, join_eq, etaE, List.nil_append]
      obtain ⟨p, ⟨b, i, h, ⟨⟩⟩, e1, hc, q⟩ := below_D k hc (IntKind.wrap .i64 ((l.length : Int) + 1)) (by rw [w64 (by omega) (by omega)]; omega)
      rw [e1]
      simp only [bnd_some']
      have qp := q.2 (by rw [w64 (by omega) (by omega)]; omega)
      rw [w64 (by omega) (by omega)] at qp
      have qp0 := q.1
      obtain ⟨A, B, rfl, rfl⟩ : ∃ A B, l = A ++ B ∧ p = (A.length : Int) := ⟨l.take p.toNat, l.drop p.toNat, by simp, by simp; omega⟩
      simp only [List.length_append] at hll
      simp only [subL_left, subL_right]
      have hn : Evs (27 - 3 * (n + 1) + 1) (A ++ [rdL L v E0] ++ B) := by
        refine ⟨by simp; omega, ?_⟩
        intro x hx
        rcases List.mem_append.1 hx with hx | hx
        · rcases List.mem_append.1 hx with hx | hx
          · exact hl.2 x (by simp [hx])
          · simp at hx; subst hx; exact rdE8 hL v
        · exact hl.2 x (by simp [hx])
      rw [grd_of, grd_of, grd_of, grd_of, grd_of, grd_of]
      · obtain ⟨t, ⟨b, i, h, ⟨⟩⟩, e1, hc, q⟩ := once_D k hc 6 (by omega)
        rw [e1]
        simp only [bnd_some', hw]
        cases t with
        | false =>
          simp only [sel_false]
          exact hJ _ _ _ _ hc (hn.mono (by omega))
        | true =>
          simp only [sel_true]
          obtain ⟨u, ⟨b, i, h, ⟨⟩⟩, e1, hc, q⟩ := below_D k hc (v + 1) (by omega)
          rw [e1]
          have q2 := q.2 (by omega)
          simp only [bnd_some']
          rw [inb_of q.1 (by omega), fits_of (by decide) (by simp; omega)]
          simp only [grd_true]
          exact hJ _ _ _ _ hc ((hn.snoc (rdE8 hL u)).mono (by omega))
      all_goals first | exact fits_of (by decide) (by first | omega | (simp; omega)) | exact inb_of (by omega) (by omega) | (simp; done) | (simp; omega)
  exact key L.length 0 b i h [] (by omega) (by omega) hc ⟨by simp, by simp⟩ k (by omega)

theorem drawDrop_ex {k : Nat} (hk : 1048577 < k) {code : List Int} (hc : code.length ≤ 1048576) : ∃ (l : List TEv) (id : Int), VF.spec_DrawDropEvent k code = some ((l, id, ()), ()) ∧ Evs 27 l := by
  unfold VF.spec_DrawDropEvent
  obtain ⟨⟨b, i, h, ⟨⟩⟩, e, ok⟩ := new_ex0 hk hc
  rw [e]
  simp only [bnd_some']
  obtain ⟨l, ⟨b, i, h, ⟨⟩⟩, e, ok, hl⟩ := levents_D k (by omega) ok
  rw [e]
  simp only [bnd_some']
  obtain ⟨v, ⟨b, i, h, ⟨⟩⟩, e, ok, q⟩ := below_D k ok 9 (by omega)
  rw [e]
  exact ⟨_, _, rfl, hl⟩
end VM
