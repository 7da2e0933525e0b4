/- What the functions of JoinTrials compute. -/
import Derived.Test.YtkdkpfnglogpdaaVQc
set_option linter.unusedVariables false
set_option linter.unusedSimpArgs false
namespace VM
open Go

def SmE (l : List Ent) : Prop := l.length ≤ 1048576 ∧ ∀ e ∈ l, e.1.length ≤ 1048576

theorem szEntry_eq (k : Nat) (e : Ent) (he : e.1.length ≤ maxLen) (left : Int) (h0 : 0 ≤ left) (h1 : left ≤ 1048576) :
    ∃ r : Int, VF.laws_szEntry k e left = some ((r, ()), ()) ∧ (r < 0 ∨ (0 ≤ r ∧ r ≤ left ∧ e.1.length ≤ 1048576)) := by
  have hm : maxLen = 9223372036854775807 := rfl
  rw [hm] at he
  unfold VF.laws_szEntry
  have hw : IntKind.wrap .i64 (left - (e.1.length : Int)) = left - (e.1.length : Int) := w64 (by omega) (by omega)
  rw [hw]
  by_cases h : left - (e.1.length : Int) < 0
  · exact ⟨-1, by simp [h], .inl (by omega)⟩
  · exact ⟨left - (e.1.length : Int), by simp [h], .inr (by omega)⟩

theorem szEntryS_eq {k : Nat} (hk : 1048577 < k) (l : List Ent) (hl : OkD (.sl (.pair .str (.pair (.int .i64) .unit))) l) (left : Int) (h0 : 0 ≤ left) (h1 : left ≤ 1048576) :
    ∃ r : Int, VF.laws_szEntryS k l left = some ((r, ()), ()) ∧ (r < 0 ∨ (0 ≤ r ∧ r ≤ left ∧ SmE l)) := by
  obtain ⟨hm, hall⟩ := hl
  have hmm : maxLen = 9223372036854775807 := rfl
  rw [hmm] at hm
  unfold VF.laws_szEntryS
  have hw : IntKind.wrap .i64 (left - (l.length : Int)) = left - (l.length : Int) := w64 (by omega) (by omega)
  rw [hw]
  by_cases h : left - (l.length : Int) < 0
  · exact ⟨-1, by simp [h], .inl (by omega)⟩
  · simp only [h, decide_false, sel_false, join_eq]
    obtain ⟨r, e1, e2⟩ := iter_sz (s := VF.laws_szEntryS.l1 k l VF.laws_szEntryS.j0) l (fun e => e.1.length ≤ 1048576)
      (fun ih pre x post left hx h0 h1 => by
        have hlen : pre.length < 1099511627776 := by have := congrArg List.length hx; simp at this; omega
        have hxm : x ∈ l := by rw [hx]; simp
        obtain ⟨r, e1, e2⟩ := szEntry_eq k x (hall x hxm).1 left h0 h1
        refine ⟨r, ?_, e2⟩
        rw [hx]
        obtain ⟨x1, x2, ⟨⟩⟩ := x
        simp only [VF.laws_szEntryS.l1, lt_mid, sel_true, inb_mid, grd_true, rdL_mid, e1, bnd_some', wnext hlen])
      (fun ih left => by simp [VF.laws_szEntryS.l1, VF.laws_szEntryS.j0])
      (k := k) (by omega) (left := left - (l.length : Int)) (by omega) (by omega)
    refine ⟨r, e1, ?_⟩
    rcases e2 with h | ⟨a, b, c⟩
    · exact .inl h
    · exact .inr ⟨a, by omega, by omega, c⟩

theorem szEntrySS_eq {k : Nat} (hk : 1048577 < k) (l : List (List Ent)) (hl : OkD (.sl (.sl (.pair .str (.pair (.int .i64) .unit)))) l) :
    ∃ r : Int, VF.laws_szEntrySS k l 1048576 = some ((r, ()), ()) ∧ (r < 0 ∨ (0 ≤ r ∧ r ≤ 1048576 ∧ l.length ≤ 1048576 ∧ ∀ x ∈ l, SmE x)) := by
  obtain ⟨hm, hall⟩ := hl
  have hmm : maxLen = 9223372036854775807 := rfl
  rw [hmm] at hm
  unfold VF.laws_szEntrySS
  have hw : IntKind.wrap .i64 (1048576 - (l.length : Int)) = 1048576 - (l.length : Int) := w64 (by omega) (by omega)
  rw [hw]
  by_cases h : 1048576 - (l.length : Int) < 0
  · exact ⟨-1, by simp [h], .inl (by omega)⟩
  · simp only [h, decide_false, sel_false, join_eq]
    obtain ⟨r, e1, e2⟩ := iter_sz (s := VF.laws_szEntrySS.l1 k l VF.laws_szEntrySS.j0) l SmE
      (fun ih pre x post left hx h0 h1 => by
        have hlen : pre.length < 1099511627776 := by have := congrArg List.length hx; simp at this; omega
        have hxm : x ∈ l := by rw [hx]; simp
        obtain ⟨r, e1, e2⟩ := szEntryS_eq hk x (hall x hxm) left h0 h1
        refine ⟨r, ?_, e2⟩
        rw [hx]
        simp only [VF.laws_szEntrySS.l1, lt_mid, sel_true, inb_mid, grd_true, rdL_mid, e1, bnd_some', wnext hlen])
      (fun ih left => by simp [VF.laws_szEntrySS.l1, VF.laws_szEntrySS.j0])
      (k := k) (by omega) (left := 1048576 - (l.length : Int)) (by omega) (by omega)
    refine ⟨r, e1, ?_⟩
    rcases e2 with h | ⟨a, b, c⟩
    · exact .inl h
    · exact .inr ⟨a, by omega, by omega, c⟩

theorem copy_grd {n b : Nat} (hb : 0 < b) (hn : n * b ≤ 140737488355328) : (decide ((n : Int) = (n : Int)) && decide (0 ≤ (n : Int)) && fits (Int.toNat (n : Int)) b) = true := by
  simp only [decide_true, Bool.true_and, Int.toNat_natCast, Bool.and_eq_true, decide_eq_true_eq]
  exact ⟨by omega, fits_of hb hn⟩

theorem toEntryS_eq {k : Nat} {a : List Ent} (hk : a.length < k) (hl : a.length ≤ 1048576) : VF.laws_toEntryS k a = some ((a, ()), ()) := by
  unfold VF.laws_toEntryS
  rw [copy_grd (by omega) (by omega), grd_true, join_eq, Int.toNat_natCast]
  rw [iter_copy (s := VF.laws_toEntryS.l1 k a VF.laws_toEntryS.j0) (fun x => x) ([], 0, ()) VF.laws_toEntryS.j0 a ?_ ?_ hk]
  · simp [VF.laws_toEntryS.j0]
  · intro ih pre x post q y rest hx hq
    have hpl : pre.length < 1099511627776 := by rw [hx] at hl; simp at hl; omega
    have i1 : inb (q ++ y :: rest) (pre.length : Int) = true := by rw [← hq]; exact inb_mid _ _ _
    have i2 : ∀ z, wrL (q ++ y :: rest) (pre.length : Int) z = q ++ z :: rest := by intro z; rw [← hq]; exact wrL_mid _ _ _ _
    rw [hx]
    obtain ⟨x1, x2, ⟨⟩⟩ := x
    simp only [VF.laws_toEntryS.l1, lt_mid, sel_true, inb_mid, grd_true, i1, i2, rdL_mid, VF.laws_toEntry, bnd_some', wnext hpl]
  · intro ih q
    simp [VF.laws_toEntryS.l1]

theorem toEntrySS_eq {k : Nat} (hk : 1048577 < k) {a : List (List Ent)} (hl : a.length ≤ 1048576) (hs : ∀ x ∈ a, SmE x) : VF.laws_toEntrySS k a = some ((a, ()), ()) := by
  unfold VF.laws_toEntrySS
  rw [copy_grd (by omega) (by omega), grd_true, join_eq, Int.toNat_natCast]
  rw [iter_copy (s := VF.laws_toEntrySS.l1 k a VF.laws_toEntrySS.j0) (fun x => x) [] VF.laws_toEntrySS.j0 a ?_ ?_ (by omega)]
  · simp [VF.laws_toEntrySS.j0]
  · intro ih pre x post q y rest hx hq
    have hpl : pre.length < 1099511627776 := by rw [hx] at hl; simp at hl; omega
    have hxs : SmE x := hs x (by rw [hx]; simp)
    have i1 : inb (q ++ y :: rest) (pre.length : Int) = true := by rw [← hq]; exact inb_mid _ _ _
    have i2 : ∀ z, wrL (q ++ y :: rest) (pre.length : Int) z = q ++ z :: rest := by intro z; rw [← hq]; exact wrL_mid _ _ _ _
    rw [hx]
    simp only [VF.laws_toEntrySS.l1, lt_mid, sel_true, inb_mid, grd_true, i1, i2, rdL_mid, toEntryS_eq (k := k) (a := x) (by have := hxs.1; omega) hxs.1, bnd_some', wnext hpl]
  · intro ih q
    simp [VF.laws_toEntrySS.l1]

theorem eqEntrySS_eq {k : Nat} (hk : 1048577 < k) {a b : List (List Ent)} (hl : a.length ≤ 1048576) (hs : ∀ x ∈ a, SmE x) : VF.laws_eqEntrySS k a b = some ((decide (a = b), ()), ()) := by
  unfold VF.laws_eqEntrySS
  by_cases h : a.length = b.length
  · have h' : decide ((a.length : Int) = (b.length : Int)) = true := by simp [h]
    simp only [h', Bool.not_true, sel_false, join_eq]
    refine iter_eq a b h (fun ih pre x post pre' y post' hx hy hp => ?_) (fun ih => by simp [VF.laws_eqEntrySS.l1, VF.laws_eqEntrySS.j0]) (by omega)
    have hpl : pre.length < 1099511627776 := by rw [hx] at hl; simp at hl; omega
    have hxs : SmE x := hs x (by rw [hx]; simp)
    have i1 : inb b (pre.length : Int) = true := by rw [hy, ← hp]; exact inb_mid _ _ _
    have i2 : rdL b (pre.length : Int) [] = y := by rw [hy, ← hp]; exact rdL_mid _ _ _ _
    rw [hx]
    simp only [VF.laws_eqEntrySS.l1, lt_mid, sel_true, inb_mid, grd_true, i1, i2, rdL_mid, eqEntryS_eq (k := k) (a := x) (b := y) (by have := hxs.1; omega) (by have := hxs.1; omega), bnd_some', wnext hpl]
    cases decide (x = y) <;> rfl
  · have h' : decide ((a.length : Int) = (b.length : Int)) = false := by simp; omega
    have h2 : a ≠ b := fun e => h (by rw [e])
    simp [h', h2]

/-! ### codes -/
theorem isCode_same (k : Nat) (s : List UInt8) : VF.impl_IsCode k s = VF.spec_IsCode k s := rfl
def isC (k : Nat) (s : List UInt8) : Bool := match VF.spec_IsCode k s with | some y => y.1.1 | none => false
theorem isC_eq {k : Nat} {s : List UInt8} (hk : s.length < k) (hl : s.length < 1099511627776) : VF.spec_IsCode k s = some ((isC k s, ()), ()) := by
  have : ∃ b, VF.spec_IsCode k s = some ((b, ()), ()) := by
    unfold VF.spec_IsCode
    rw [join_eq]
    have key : ∀ (post pre : List UInt8), s = pre ++ post → ∀ k, post.length < k → ∃ b, iter (VF.spec_IsCode.l3 s (VF.spec_IsCode.j0 s)) k (pre.length : Int) = some ((b, ()), ()) := by
      intro post
      induction post with
      | nil =>
        intro pre hx k hk
        cases k with
        | zero => omega
        | succ k =>
          rw [List.append_nil] at hx
          subst hx
          rw [iter_succ]
          simp only [VF.spec_IsCode.l3, Int.lt_irrefl, decide_false, sel_false, VF.spec_IsCode.j0]
          cases decide (1 ≤ (s.length : Int))
          · exact ⟨_, rfl⟩
          · exact ⟨_, rfl⟩
      | cons x post ih =>
        intro pre hx k hk
        cases k with
        | zero => omega
        | succ k =>
          rw [iter_succ]
          have hpl : pre.length < 1099511627776 := by rw [hx] at hl; simp at hl; omega
          obtain ⟨b, hb⟩ := ih (pre ++ [x]) (by simpa using hx) k (by simp at hk; omega)
          have hb' : iter (VF.spec_IsCode.l3 s (VF.spec_IsCode.j0 s)) k ((pre.length + 1 : Nat) : Int) = some ((b, ()), ()) := by simpa using hb
          have g1 : decide ((pre.length : Int) < (s.length : Int)) = true := by rw [hx]; exact lt_mid _ _ _
          have g2 : inb s (pre.length : Int) = true := by rw [hx]; exact inb_mid _ _ _
          simp only [VF.spec_IsCode.l3, VF.spec_IsCode.j2, VF.spec_IsCode.j1, g1, g2, sel_true, grd_true, join_eq, wnext hpl, hb']
          simp only [sel_if]
          repeat' split
          all_goals exact ⟨_, rfl⟩
    obtain ⟨b, hb⟩ := key s [] rfl k hk
    exact ⟨b, by simpa using hb⟩
  obtain ⟨b, hb⟩ := this
  rw [hb]
  simp [isC, hb]

/-! ### trials -/
def okT (k : Nat) (pre : List Ent) (e : Ent) : Bool := isC k e.1 && inB e.2.1 (-1000000000) 1000000000 && !decide (e.2.1 = 0) && (match pre.getLast? with | some q => ltS q.1 e.1 | none => true)
def sumF (l : List Ent) : Int := l.foldl (fun s e => IntKind.wrap .i64 (s + e.2.1)) 0
def isT (k : Nat) (l : List Ent) : Bool := allP (okT k) [] l && (decide (sumF l = 0) && decide (l.length ≤ 12))

theorem last_get {α : Type} (pre post : List α) (x y d : α) (h : pre.getLast? = some y) : 0 < pre.length ∧ inb (pre ++ x :: post) ((pre.length : Int) - 1) = true ∧ rdL (pre ++ x :: post) ((pre.length : Int) - 1) d = y := by
  have hne : pre ≠ [] := by intro e; rw [e] at h; simp at h
  obtain ⟨q, z, rfl⟩ : ∃ q z, pre = q ++ [z] := ⟨pre.dropLast, pre.getLast hne, (List.dropLast_concat_getLast hne).symm⟩
  simp at h
  subst h
  have e1 : (((q ++ [z]).length : Int) - 1) = (q.length : Int) := by simp
  rw [e1]
  refine ⟨by simp, ?_, ?_⟩
  · rw [show q ++ [z] ++ x :: post = q ++ z :: (x :: post) by simp]; exact inb_mid _ _ _
  · rw [show q ++ [z] ++ x :: post = q ++ z :: (x :: post) by simp]; exact rdL_mid _ _ _ _

theorem spec_IsTrial_eq {k : Nat} (hk : 1048577 < k) {l : List Ent} (hl : SmE l) : VF.spec_IsTrial k l = some ((isT k l, ()), ()) := by
  obtain ⟨hl1, hl2⟩ := hl
  unfold VF.spec_IsTrial
  rw [join_eq]
  have h1 := iter_allf (s := VF.spec_IsTrial.l3 k l (VF.spec_IsTrial.j0 l)) (fun (a : Int) i => (a, (i : Int))) l (okT k) (fun s e => IntKind.wrap .i64 (s + e.2.1)) (some ((false, ()), ())) (VF.spec_IsTrial.j0 l) (fun _ _ => True)
    (fun _ _ _ _ _ _ _ => trivial)
    (fun ih a pre x post hx _ => by
      have hpl : pre.length < 1099511627776 := by rw [hx] at hl1; simp at hl1; omega
      have hxm : x ∈ l := by rw [hx]; simp
      have hxl := hl2 x hxm
      have hw : 0 < pre.length → IntKind.wrap .i64 ((pre.length : Int) - 1) = (pre.length : Int) - 1 := fun h => w64 (by omega) (by omega)
      rw [hx]
      simp only [VF.spec_IsTrial.l3, VF.spec_IsTrial.j2, VF.spec_IsTrial.j1, lt_mid, sel_true, inb_mid, grd_true, rdL_mid, join_eq, isC_eq (k := k) (s := x.1) (by omega) (by omega), l1In_eq, bnd_some', wnext hpl, okT]
      cases hg : pre.getLast? with
      | none =>
        have h0 : pre = [] := by simpa using hg
        subst h0
        simp only [List.length_nil, Int.natCast_zero, Int.lt_irrefl, decide_false, sel_false, Bool.and_true]
        cases isC k x.1 <;> cases decide (x.2.1 = 0) <;> cases inB x.2.1 (-1000000000) 1000000000 <;> rfl
      | some q =>
        obtain ⟨g1, g2, g3⟩ := last_get pre post x q ([], 0, ()) hg
        have g4 : decide (0 < (pre.length : Int)) = true := by simp; omega
        rw [hw g1]
        simp only [g2, g3, g4, sel_true, grd_true]
        cases isC k x.1 <;> cases decide (x.2.1 = 0) <;> cases inB x.2.1 (-1000000000) 1000000000 <;> cases ltS q.1 x.1 <;> rfl)
    (fun ih a _ => by simp [VF.spec_IsTrial.l3])
    (k := k) (by omega) (a := 0) trivial
  rw [show ((0 : Nat) : Int) = 0 from rfl] at h1
  rw [h1]
  show sel _ (VF.spec_IsTrial.j0 l (sumF l)) _ = _
  have h12 : decide ((l.length : Int) ≤ 12) = decide (l.length ≤ 12) := by by_cases h : l.length ≤ 12 <;> simp [h] <;> omega
  simp only [isT, VF.spec_IsTrial.j0, h12]
  cases allP (okT k) [] l <;> cases decide (sumF l = 0) <;> rfl

theorem impl_IsTrial_eq {k : Nat} (hk : 1048577 < k) {l : List Ent} (hl : SmE l) : VF.impl_IsTrial k l = some ((isT k l, ()), ()) := by
  obtain ⟨hl1, hl2⟩ := hl
  unfold VF.impl_IsTrial
  rw [join_eq]
  have h1 := iter_allf (s := VF.impl_IsTrial.l2 k l (VF.impl_IsTrial.j0 l)) (fun (a : Int) i => (a, l, (l.length : Int), (i : Int))) l (okT k) (fun s e => IntKind.wrap .i64 (s + e.2.1)) (some ((false, ()), ())) (VF.impl_IsTrial.j0 l) (fun _ _ => True)
    (fun _ _ _ _ _ _ _ => trivial)
    (fun ih a pre x post hx _ => by
      have hpl : pre.length < 1099511627776 := by rw [hx] at hl1; simp at hl1; omega
      have hxm : x ∈ l := by rw [hx]; simp
      have hxl := hl2 x hxm
      have hw : 0 < pre.length → IntKind.wrap .i64 ((pre.length : Int) - 1) = (pre.length : Int) - 1 := fun h => w64 (by omega) (by omega)
      rw [hx]
      simp only [VF.impl_IsTrial.l2, VF.impl_IsTrial.j1, lt_mid, sel_true, inb_mid, grd_true, rdL_mid, join_eq, isCode_same, isC_eq (k := k) (s := x.1) (by omega) (by omega), in_eq, bnd_some', wnext hpl, okT]
      cases hg : pre.getLast? with
      | none =>
        have h0 : pre = [] := by simpa using hg
        subst h0
        simp only [List.length_nil, Int.natCast_zero, Int.lt_irrefl, decide_false, sel_false, Bool.and_true]
        cases isC k x.1 <;> cases decide (x.2.1 = 0) <;> cases inB x.2.1 (-1000000000) 1000000000 <;> rfl
      | some q =>
        obtain ⟨g1, g2, g3⟩ := last_get pre post x q ([], 0, ()) hg
        have g4 : decide (0 < (pre.length : Int)) = true := by simp; omega
        rw [hw g1]
        simp only [g2, g3, g4, sel_true, grd_true]
        cases isC k x.1 <;> cases decide (x.2.1 = 0) <;> cases inB x.2.1 (-1000000000) 1000000000 <;> cases ltS q.1 x.1 <;> rfl)
    (fun ih a _ => by simp [VF.impl_IsTrial.l2])
    (k := k) (by omega) (a := 0) trivial
  rw [show ((0 : Nat) : Int) = 0 from rfl] at h1
  rw [h1]
  show sel _ (VF.impl_IsTrial.j0 l (sumF l)) _ = _
  have h12 : decide ((l.length : Int) ≤ 12) = decide (l.length ≤ 12) := by by_cases h : l.length ≤ 12 <;> simp [h] <;> omega
  simp only [isT, VF.impl_IsTrial.j0, h12]
  cases allP (okT k) [] l <;> cases decide (sumF l = 0) <;> cases decide (l.length ≤ 12) <;> rfl

theorem isT_len {k : Nat} {l : List Ent} (h : isT k l = true) : l.length ≤ 12 := by
  simp only [isT, Bool.and_eq_true, decide_eq_true_eq] at h
  exact h.2.2
theorem isT_ok {k : Nat} {l : List Ent} (h : isT k l = true) : AllI l := by
  simp only [isT, Bool.and_eq_true, decide_eq_true_eq] at h
  intro e he
  obtain ⟨q, hq⟩ := allP_mem h.1 e he
  simp only [okT, inB, Bool.and_eq_true, decide_eq_true_eq] at hq
  unfold EntOk I64
  omega

/-! ### their sum -/
def joinT (k : Nat) (l : List (List Ent)) : List Ent × Bool := if l.length ≤ 6 ∧ (l.all (isT k)) = true then (adds l.flatten, true) else ([], false)

theorem foldl_flat {α β : Type} (f : β → α → β) : ∀ (l : List (List α)) (r : β), l.foldl (fun a x => x.foldl f a) r = l.flatten.foldl f r
  | [], r => rfl
  | x :: l, r => by rw [List.foldl_cons, foldl_flat f l, List.flatten_cons, List.foldl_append]

theorem flat12 {k : Nat} : ∀ {l : List (List Ent)}, l.all (isT k) = true → l.flatten.length ≤ 12 * l.length ∧ AllI l.flatten
  | [], _ => ⟨by simp, by simp [AllI]⟩
  | x :: l, h => by
    simp only [List.all_cons, Bool.and_eq_true] at h
    obtain ⟨h1, h2⟩ := flat12 h.2
    have := isT_len h.1
    refine ⟨by rw [List.flatten_cons, List.length_append, List.length_cons]; omega, fun e he => ?_⟩
    rw [List.flatten_cons] at he
    rcases List.mem_append.1 he with he | he
    · exact isT_ok h.1 e he
    · exact h2 e he

theorem impl_Join_eq {k : Nat} (hk : 1048577 < k) {l : List (List Ent)} (hl : l.length ≤ 1048576) (hs : ∀ x ∈ l, SmE x) : VF.impl_JoinTrials k l = some (((joinT k l).1, (joinT k l).2, ()), ()) := by
  unfold VF.impl_JoinTrials joinT
  by_cases h6 : l.length ≤ 6
  · have h6' : decide ((6 : Int) < (l.length : Int)) = false := by simp; omega
    simp only [h6', sel_false, join_eq]
    have f1 : ∀ m, m ≤ 1048576 + 2 → fits m 24 = true := fun m hm => fits_of (by omega) (by omega)
    have h1 := iter_allf (s := VF.impl_JoinTrials.l1 k (VF.impl_JoinTrials.j0 k)) (fun (a : List Ent) i => (a, l, (l.length : Int), (i : Int))) l (fun _ x => isT k x) (fun a x => a ++ x) (some (([], false, ()), ())) (VF.impl_JoinTrials.j0 k)
      (fun pre a => a.length ≤ 12 * pre.length)
      (fun a pre x post hx ha hp => by
        have := isT_len hp
        simp only [List.length_append, List.length_cons, List.length_nil]
        omega)
      (fun ih a pre x post hx ha => by
        have hpl : pre.length ≤ 6 := by rw [hx] at h6; simp at h6; omega
        have hxm : x ∈ l := by rw [hx]; simp
        have hxs := hs x hxm
        rw [hx]
        simp only [VF.impl_JoinTrials.l1, lt_mid, sel_true, inb_mid, grd_true, rdL_mid, impl_IsTrial_eq hk hxs, bnd_some', wnext (show pre.length < 1099511627776 by omega)]
        cases ht : isT k x with
        | false => rfl
        | true =>
          have := isT_len ht
          simp only [Bool.not_true, sel_false, sel_true]
          rw [f1 _ (by omega), grd_true])
      (fun ih a ha => by simp [VF.impl_JoinTrials.l1])
      (k := k) (by omega) (a := []) (by simp)
    rw [show ((0 : Nat) : Int) = 0 from rfl] at h1
    rw [h1, allP_all]
    cases hall : l.all (isT k) with
    | false => simp
    | true =>
      obtain ⟨g1, g2⟩ := flat12 hall
      have hfold : ∀ (l : List (List Ent)) (r : List Ent), l.foldl (fun a x => a ++ x) r = r ++ l.flatten := by
        intro l
        induction l with
        | nil => simp
        | cons d l ih => intro r; simp [ih]
      rw [hfold, List.nil_append]
      simp only [sel_true, VF.impl_JoinTrials.j0, h6, true_and, if_true]
      rw [totals_eq (by omega) (by omega), bnd_some', tots_eq _ g2]
  · have h6' : decide ((6 : Int) < (l.length : Int)) = true := by simp; omega
    simp [h6, h6']

theorem spec_Join_eq {k : Nat} (hk : 1048577 < k) {l : List (List Ent)} (hl : l.length ≤ 1048576) (hs : ∀ x ∈ l, SmE x) : VF.spec_JoinTrials k l = some (((joinT k l).1, (joinT k l).2, ()), ()) := by
  unfold VF.spec_JoinTrials joinT
  rw [join_eq]
  have hd6 : decide ((l.length : Int) ≤ 6) = decide (l.length ≤ 6) := by by_cases h : l.length ≤ 6 <;> simp [h] <;> omega
  by_cases h6 : l.length ≤ 6
  · have h1 := iter_allf (s := VF.spec_JoinTrials.l3 k l (VF.spec_JoinTrials.j0 l)) (fun (a : List Ent) i => (a, (i : Int))) l (fun _ x => isT k x) (fun a x => x.foldl (fun r e => addE r e.1 e.2.1) a) (some (([], false, ()), ())) (VF.spec_JoinTrials.j0 l)
      (fun pre a => a.length ≤ 12 * pre.length)
      (fun a pre x post hx ha hp => by
        have := isT_len hp
        have := fold_len x a
        simp only [List.length_append, List.length_cons, List.length_nil]
        omega)
      (fun ih a pre x post hx ha => by
        have hpl : pre.length ≤ 6 := by rw [hx] at h6; simp at h6; omega
        have hxm : x ∈ l := by rw [hx]; simp
        have hxs := hs x hxm
        have g1 : decide ((pre.length : Int) < (l.length : Int)) = true := by rw [hx]; exact lt_mid _ _ _
        have g2 : inb l (pre.length : Int) = true := by rw [hx]; exact inb_mid _ _ _
        have g3 : rdL l (pre.length : Int) [] = x := by rw [hx]; exact rdL_mid _ _ _ _
        simp only [VF.spec_JoinTrials.l3, g1, g2, g3, hd6, h6, decide_true, sel_true, grd_true, join_eq, spec_IsTrial_eq hk hxs, bnd_some']
        cases ht : isT k x with
        | false => rfl
        | true =>
          have hx12 := isT_len ht
          simp only [Bool.not_true, sel_false, sel_true]
          have h2 := iter_fold (s := VF.spec_JoinTrials.l2 k l (VF.spec_JoinTrials.j1 ih)) (fun (a : List Ent) i => (a, (pre.length : Int), (i : Int))) x (fun r e => addE r e.1 e.2.1) (fun a => VF.spec_JoinTrials.j1 ih (a, (pre.length : Int)))
            (fun q a => a.length ≤ 100 + q.length)
            (fun a q y post' hy hq => by
              have := addE_length a y.1 y.2.1
              simp only [List.length_append, List.length_cons, List.length_nil]
              omega)
            (fun ih2 a q y post' hy hq => by
              have hql : q.length ≤ 12 := by rw [hy] at hx12; simp at hx12; omega
              have k1 : decide ((q.length : Int) < (x.length : Int)) = true := by rw [hy]; exact lt_mid _ _ _
              have k2 : inb x (q.length : Int) = true := by rw [hy]; exact inb_mid _ _ _
              have k3 : rdL x (q.length : Int) ([], 0, ()) = y := by rw [hy]; exact rdL_mid _ _ _ _
              simp only [VF.spec_JoinTrials.l2, g2, g3, k1, k2, k3, sel_true, grd_true, l35Add_eq (k := k) (l := a) (a := y.1) (n := y.2.1) (by omega) (by omega), bnd_some', wnext (show q.length < 1099511627776 by omega)])
            (fun ih2 a hq => by
              simp only [VF.spec_JoinTrials.l2, g2, g3, grd_true, Int.lt_irrefl, decide_false, sel_false])
            (k := k) (by omega) (a := a) (by simp; omega)
          rw [show ((0 : Nat) : Int) = 0 from rfl] at h2
          rw [h2]
          simp only [VF.spec_JoinTrials.j1, wnext (show pre.length < 1099511627776 by omega)])
      (fun ih a ha => by simp [VF.spec_JoinTrials.l3])
      (k := k) (by omega) (a := []) (by simp)
    rw [show ((0 : Nat) : Int) = 0 from rfl] at h1
    rw [h1, allP_all]
    cases hall : l.all (isT k) with
    | false => simp
    | true =>
      rw [foldl_flat]
      simp only [sel_true, VF.spec_JoinTrials.j0, hd6, h6, decide_true, true_and, if_true]
      rfl
  · cases k with
    | zero => omega
    | succ k =>
      rw [iter_succ]
      have h0 : decide ((0 : Int) < (l.length : Int)) = true := by simp; omega
      have h0' : decide (0 < l.length) = true := by simp; omega
      simp [VF.spec_JoinTrials.l3, VF.spec_JoinTrials.j0, h6, hd6, h0, h0']

def marksEE : List (List Ent) → Int → List (List Ent)
  | [], _ => []
  | x :: l, m => marksE x m :: marksEE l (m + 2 * x.length)
def lenEE (l : List (List Ent)) : Nat := l.flatten.length
theorem markEntrySS_eq {k : Nat} (hk : 1048577 < k) {l : List (List Ent)} (hl : l.length ≤ 1048576) (hs : ∀ x ∈ l, SmE x) :
    ∃ q, VF.laws_markEntrySS k l 1 = some ((1 + 2 * (lenEE l : Int), ()), (q, ())) := by
  unfold VF.laws_markEntrySS
  rw [join_eq]
  have key : ∀ (post pre : List (List Ent)) (m : Int) (j : Nat), post.length < j → (∀ x ∈ post, SmE x) → 0 ≤ m → m + 2097152 * post.length < 1099511627776 * 3 → pre.length + post.length ≤ 1048576 → m ≤ 1 + 2097152 * (pre.length : Int) →
      ∃ q, iter (VF.laws_markEntrySS.l1 k VF.laws_markEntrySS.j0) j (pre ++ post, m, (pre.length : Int)) = some ((m + 2 * (lenEE post : Int), ()), (q, ())) := by
    intro post
    induction post with
    | nil =>
      intro pre m j hj hs h0 h1 h2 h3
      cases j with
      | zero => omega
      | succ j => rw [iter_succ]; exact ⟨pre, by simp [VF.laws_markEntrySS.l1, VF.laws_markEntrySS.j0, lenEE]⟩
    | cons e post ih =>
      intro pre m j hj hs h0 h1 h2 h3
      simp only [List.length_cons] at h1 h2 hj
      cases j with
      | zero => omega
      | succ j =>
        rw [iter_succ]
        have hes := hs e (by simp)
        have hel := hes.1
        have hmk := markEntryS_eq (k := k) (by omega) (l := e) (m := m) (by omega) (by omega) ⟨h0, by omega⟩
        simp only [VF.laws_markEntrySS.l1, lt_mid, sel_true, inb_mid, grd_true, rdL_mid, wrL_mid, hmk, bnd_some', wnext (show pre.length < 1099511627776 by omega)]
        obtain ⟨q, hq⟩ := ih (pre ++ [marksE e m]) (m + 2 * (e.length : Int)) j (by omega) (fun x hx => hs x (by simp [hx])) (by omega) (by omega) (by simp; omega) (by simp; omega)
        simp only [List.append_assoc, List.singleton_append, List.length_append, List.length_cons, List.length_nil, Nat.zero_add] at hq
        refine ⟨q, ?_⟩
        rw [hq]
        simp only [lenEE, List.flatten_cons, List.length_append]
        congr 3
        omega
  have := key l [] 1 k (by omega) hs (by omega) (by omega) (by simpa using hl) (by simp)
  simpa using this

theorem adds_length (l : List Ent) : (adds l).length ≤ l.length := by
  have := fold_len l []
  simpa [adds] using this

theorem join_true (l : List (List Ent)) (hl : OkD (.sl (.sl (.pair .str (.pair (.int .i64) .unit)))) l) : VF.laws_FnExactJoinTrials 1048600 l = some ((true, ()), ()) := by
  unfold VF.laws_FnExactJoinTrials
  obtain ⟨r, e1, e2⟩ := szEntrySS_eq (k := 1048600) (by omega) l hl
  rw [e1, bnd_some']
  by_cases h : r < 0
  · simp [h]
  · rcases e2 with h' | ⟨_, _, hlen, hs⟩
    · exact absurd h' h
    · have hg : (joinT 1048600 l).1.length ≤ 72 := by
        unfold joinT
        split
        · next hj =>
          obtain ⟨g1, g2⟩ := flat12 hj.2
          have := adds_length l.flatten
          have := hj.1
          simp only
          omega
        · simp
      have r1 := toEntrySS_eq (k := 1048600) (by omega) hlen hs
      have r2 := spec_Join_eq (k := 1048600) (by omega) hlen hs
      have r3 := impl_Join_eq (k := 1048600) (by omega) hlen hs
      have r4 := eqEntryS_eq (k := 1048600) (a := (joinT 1048600 l).1) (b := (joinT 1048600 l).1) (by omega) (by omega)
      have r5 := eqEntrySS_eq (k := 1048600) (by omega) (a := l) (b := l) hlen hs
      obtain ⟨q, r6⟩ := markEntrySS_eq (k := 1048600) (by omega) hlen hs
      have r7 := markEntryS_eq (k := 1048600) (by omega) (l := (joinT 1048600 l).1) (m := 1) (by omega) (by omega) (by omega)
      have r8 := heldEntryS_eq (k := 1048600) (by omega) (l := (joinT 1048600 l).1) (m := 1) (by omega) (by omega) (by omega)
      have d1 : decide ((1 + 2 * (lenEE l : Int)) < 0) = false := by simp; omega
      have d2 : decide ((1 + 2 * ((joinT 1048600 l).1.length : Int)) < 0) = false := by simp; omega
      simp only [h, decide_false, sel_false, r1, r2, r3, r4, r5, r6, r7, r8, bnd_some', decide_true, Bool.not_true, join_eq, d1, d2, VF.laws_FnExactJoinTrials.j0, VF.laws_FnExactJoinTrials.j1, VF.laws_FnExactJoinTrials.j2, beq_self_eq_true]
end VM
