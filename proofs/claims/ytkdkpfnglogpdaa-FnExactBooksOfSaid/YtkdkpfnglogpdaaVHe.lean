/- What is drawn: the documents. -/
import Derived.Test.YtkdkpfnglogpdaaVHd
set_option linter.unusedVariables false
set_option linter.unusedSimpArgs false
namespace VM
open Go

/-- Few small documents. -/
def Few (n : Nat) (l : List Doc) : Prop := l.length ≤ n ∧ ∀ d ∈ l, Sm8 d.2.2.1
theorem Few.sm {n : Nat} {l : List Doc} (h : Few n l) (hn : n ≤ 1000) : SmD l := ⟨by have := h.1; omega, fun d hd => (h.2 d hd).sm⟩
theorem Few.mono {n m : Nat} {l : List Doc} (h : Few n l) (hn : n ≤ m) : Few m l := ⟨by have := h.1; omega, h.2⟩

theorem copy_eq {k : Nat} (hk : 1048577 < k) {l : List Doc} (hl : Few 100 l) : VF.spec_l35Copy k l = some ((l, ()), ()) := by
  have h100 := hl.1
  unfold VF.spec_l35Copy
  rw [join_eq]
  have f1 : ∀ m, m ≤ 1048576 + 2 → fits m 24 = true := fun m hm => fits_of (by omega) (by omega)
  have f2 : ∀ m, m ≤ 1048576 + 2 → fits m 40 = true := fun m hm => fits_of (by omega) (by omega)
  have h1 := iter_fold (s := VF.spec_l35Copy.l1 l VF.spec_l35Copy.j0) (fun (a : List Doc) i => (a, (i : Int))) l (fun a x => a ++ [x]) VF.spec_l35Copy.j0
    (fun pre a => a.length ≤ pre.length)
    (fun a pre x post hx ha => by simp only [List.length_append, List.length_cons, List.length_nil]; omega)
    (fun ih a pre x post hx ha => by
      have hpl : pre.length < 1099511627776 := by have := congrArg List.length hx; simp at this; omega
      have hx12 := (hl.2 x (by rw [hx]; simp)).1
      have hal : a.length ≤ 100 := by have := congrArg List.length hx; simp at this; omega
      rw [hx]
      obtain ⟨x1, x2, x3, ⟨⟩⟩ := x
      simp only at hx12
      simp only [VF.spec_l35Copy.l1, lt_mid, sel_true, inb_mid, grd_true, rdL_mid, wnext hpl]
      rw [f1 _ (by omega), grd_true, f2 _ (by simp only [List.length_cons, List.length_nil]; omega), grd_true]
      rfl)
    (fun ih a ha => by simp [VF.spec_l35Copy.l1])
    (k := k) (by omega) (a := []) (by simp)
  rw [show ((0 : Nat) : Int) = 0 from rfl] at h1
  rw [h1]
  have hfold : ∀ (l r : List Doc), l.foldl (fun a x => a ++ [x]) r = r ++ l := by
    intro l
    induction l with
    | nil => simp
    | cons d l ih => intro r; simp [ih]
  rw [hfold, List.nil_append]
  rfl

theorem post_eq {k : Nat} (hk : 1048577 < k) {l : List Doc} {n : Nat} (hl : Few n l) (hn : n ≤ 50) {day : Int} {es : List Ent} (he : Sm8 es) :
    ∃ r : List Doc, ∃ b : Bool, VF.spec_PostEntries k l day es = some ((r, b, ()), ()) ∧ (b = true → Few (n + 1) r ∧ areDoc k r = true) := by
  unfold VF.spec_PostEntries
  have h1 := hl.1
  have h2 := he.1
  have f1 : ∀ m, m ≤ 1048576 + 2 → fits m 24 = true := fun m hm => fits_of (by omega) (by omega)
  have f2 : ∀ m, m ≤ 1048576 + 2 → fits m 40 = true := fun m hm => fits_of (by omega) (by omega)
  rw [copy_eq hk (hl.mono (by omega)), bnd_some']
  rw [f1 _ (by omega), grd_true, f2 _ (by simp only [List.length_cons, List.length_nil]; omega), grd_true]
  have hf : Few (n + 1) (l ++ [(IntKind.wrap .i64 ((l.length : Int) + 1), day, [] ++ es, ())]) := by
    refine ⟨by simp only [List.length_append, List.length_cons, List.length_nil]; omega, fun d hd => ?_⟩
    rcases List.mem_append.1 hd with hd | hd
    · exact hl.2 d hd
    · simp only [List.mem_singleton] at hd
      subst hd
      exact he
  rw [spec_AreDocuments_eq hk (hf.sm (by omega)), bnd_some']
  cases ha : areDoc k (l ++ [(IntKind.wrap .i64 ((l.length : Int) + 1), day, [] ++ es, ())]) with
  | false => exact ⟨[], false, rfl, by simp⟩
  | true => exact ⟨_, true, rfl, fun _ => ⟨hf, ha⟩⟩

theorem set_few {l : List Doc} {n i : Nat} {d : Doc} (hl : Few n l) (hd : Sm8 d.2.2.1) : Few n (l.set i d) := by
  refine ⟨by simpa using hl.1, fun x hx => ?_⟩
  rcases List.mem_or_eq_of_mem_set hx with h | h
  · exact hl.2 x h
  · rw [h]; exact hd

theorem docs_D (k : Nat) (hk : 1048577 < k) {c : Cur} (hc : CurOk c) : Dr (VF.spec_l35Documents k c) (fun l => Few 5 l) := by
  obtain ⟨b, i, h, ⟨⟩⟩ := c
  have hJ0 : ∀ (b : List Int) (i h : Int) (l : List Doc) (t : Bool), CurOk (b, i, h, ()) → Few 5 l → areDoc k l = true → (t = true → 0 < l.length) → Dr (VF.spec_l35Documents.j0 k ((b, i, h), l, t)) (fun l => Few 5 l) := by
    intro b i h l t hc hl hd ht
    unfold VF.spec_l35Documents.j0
    cases t with
    | false => exact ⟨_, _, rfl, hc, hl⟩
    | true =>
      have h0 := ht rfl
      have h5 := hl.1
      simp only [sel_true]
      obtain ⟨v, ⟨b', i', h', ⟨⟩⟩, e, ok, q⟩ := below_D k hc (l.length : Int) (by omega)
      rw [e]
      simp only [bnd_some']
      obtain ⟨v2, ⟨b', i', h', ⟨⟩⟩, e, ok, q2⟩ := below_D k ok 3 (by omega)
      rw [e]
      simp only [bnd_some']
      have hv := q.2 (by omega)
      have hvn : v.toNat < l.length := by have := q.1; omega
      have hm : rdL l v (0, 0, [], ()) ∈ l := by
        simp only [rdL]
        rw [List.getD_eq_getElem?_getD, List.getElem?_eq_getElem hvn]
        exact List.getElem_mem hvn
      generalize hx : rdL l v (0, 0, [], ()) = x at hm
      have hsm := hl.2 x hm
      have hE := areDoc_E hd x hm
      obtain ⟨x1, x2, x3, ⟨⟩⟩ := x
      simp only at hsm hE
      have hlen : 2 ≤ x3.length := by
        simp only [areE, inB, Bool.and_eq_true, decide_eq_true_eq] at hE
        omega
      rw [inb_of q.1 hv]
      simp only [grd_true]
      cases decide (v2 = 0) with
      | true => exact ⟨_, _, rfl, ok, set_few hl hsm⟩
      | false =>
        simp only [sel_false]
        cases decide (v2 = 1) with
        | true =>
          simp only [sel_true]
          obtain ⟨v3, ⟨b', i', h', ⟨⟩⟩, e, ok, q3⟩ := day_D k ok
          rw [e]
          exact ⟨_, _, rfl, ok, set_few hl hsm⟩
        | false =>
          simp only [sel_false]
          rw [inb_of (l := x3) (v := 0) (by omega) (by omega)]
          simp only [grd_true]
          refine ⟨_, _, rfl, ok, set_few hl ?_⟩
          obtain ⟨y, r, rfl⟩ : ∃ y r, x3 = y :: r := by
            cases x3 with
            | nil => simp at hlen
            | cons y r => exact ⟨y, r, rfl⟩
          refine ⟨by simpa [wrL] using hsm.1, fun z hz => ?_⟩
          simp only [wrL, rdL, Int.toNat_zero, List.set_cons_zero, List.getD_cons_zero] at hz
          rcases List.mem_cons.1 hz with rfl | hz
          · exact hsm.2 y (by simp)
          · exact hsm.2 z (by simp [hz])
  have hJ1 : ∀ (b : List Int) (i h : Int) (l : List Doc), CurOk (b, i, h, ()) → Few 5 l → areDoc k l = true → Dr (VF.spec_l35Documents.j1 k ((b, i, h), l)) (fun l => Few 5 l) := by
    intro b i h l hc hl hd
    unfold VF.spec_l35Documents.j1
    simp only [join_eq]
    by_cases h0 : 0 < l.length
    · have g1 : decide ((0 : Int) < (l.length : Int)) = true := by simp only [decide_eq_true_eq]; omega
      simp only [g1, sel_true]
      obtain ⟨v, ⟨b', i', h', ⟨⟩⟩, e, ok, q⟩ := once_D k hc 14 (by omega)
      rw [e]
      exact hJ0 b' i' h' l v ok hl hd (fun _ => h0)
    · have g1 : decide ((0 : Int) < (l.length : Int)) = false := by simp only [decide_eq_false_iff_not]; omega
      simp only [g1, sel_false]
      exact hJ0 b i h l false hc hl hd (by simp)
  unfold VF.spec_l35Documents
  rw [join_eq]
  obtain ⟨n, ⟨b', i', h', ⟨⟩⟩, e, ok, q⟩ := below_D k hc 6 (by omega)
  rw [e]
  simp only [bnd_some']
  have hq := q.2 (by omega)
  have key : ∀ (m : Nat) (b : List Int) (i h : Int) (l : List Doc) (j : Nat), m < j → m ≤ 5 → CurOk (b, i, h, ()) → Few (5 - m) l → areDoc k l = true →
      Dr (iter (VF.spec_l35Documents.l2 k (VF.spec_l35Documents.j1 k)) j ((b, i, h), l, (m : Int))) (fun l => Few 5 l) := by
    intro m
    induction m with
    | zero =>
      intro b i h l j hj hm hc hl hd
      obtain ⟨j', rfl⟩ : ∃ j', j = j' + 1 := ⟨j - 1, by omega⟩
      rw [iter_succ]
      simp only [VF.spec_l35Documents.l2, Int.natCast_zero, Int.lt_irrefl, decide_false, sel_false]
      exact hJ1 b i h l hc hl hd
    | succ m ih =>
      intro b i h l j hj hm hc hl hd
      obtain ⟨j', rfl⟩ : ∃ j', j = j' + 1 := ⟨j - 1, by omega⟩
      rw [iter_succ]
      have g1 : decide ((0 : Int) < ((m + 1 : Nat) : Int)) = true := by simp only [decide_eq_true_eq]; omega
      have g2 : IntKind.wrap .i64 (((m + 1 : Nat) : Int) - 1) = (m : Int) := by rw [w64 (by omega) (by omega)]; omega
      simp only [VF.spec_l35Documents.l2, g1, sel_true, g2]
      obtain ⟨v, ⟨b', i', h', ⟨⟩⟩, e, ok, q⟩ := below_D k hc 30 (by omega)
      rw [e]
      simp only [bnd_some']
      obtain ⟨es, ⟨b', i', h', ⟨⟩⟩, e, ok, q2⟩ := entries_D k (by omega) ok
      rw [e]
      simp only [bnd_some']
      obtain ⟨r, t, e, hr⟩ := post_eq hk hl (by omega) (day := v) q2
      rw [e]
      simp only [bnd_some']
      cases t with
      | true =>
        simp only [sel_true]
        obtain ⟨r1, r2⟩ := hr rfl
        exact ih b' i' h' r j' (by omega) (by omega) ok (r1.mono (by omega)) r2
      | false =>
        simp only [sel_false]
        exact ih b' i' h' l j' (by omega) (by omega) ok (hl.mono (by omega)) hd
  have := key n.toNat b' i' h' [] k (by have := q.1; omega) (by have := q.1; omega) ok ⟨by simp, by simp⟩ rfl
  rw [show ((n.toNat : Nat) : Int) = n by have := q.1; omega] at this
  exact this
end VM
