/- Books stay books. -/
import Derived.Test.YtkdkpfnglogpdaaWYa
set_option linter.unusedVariables false
set_option linter.unusedSimpArgs false
namespace VM
open Go

def sOk (k : Nat) (s : TShelf) : Prop := isC k s.1 = true ∧ areL s.2.2.1 = true ∧ s.2.1.length = s.2.2.1.length ∧ ∀ i ∈ s.2.1, inB i 1 9999 = true

theorem pw_snoc {l : List Key} (h : l.Pairwise (· < ·)) (x : Key) : (match l.getLast? with | some y => y < x | none => True) ↔ (l ++ [x]).Pairwise (· < ·) := by
  rcases List.eq_nil_or_concat l with rfl | ⟨q, y, rfl⟩
  · simp
  · rw [List.concat_eq_append] at h ⊢
    simp only [List.getLast?_append, List.getLast?_singleton, Option.some_or]
    constructor
    · intro hyx
      refine List.pairwise_append.2 ⟨h, by simp, ?_⟩
      intro z hz w hw
      simp only [List.mem_singleton] at hw
      subst hw
      rcases List.mem_append.1 hz with hz | hz
      · exact key_trans ((List.pairwise_append.1 h).2.2 z hz y (by simp)) hyx
      · simp only [List.mem_singleton] at hz; subst hz; exact hyx
    · intro hp
      exact (List.pairwise_append.1 hp).2.2 y (by simp) x (by simp)

theorem okS_iff {k : Nat} {pre : List TShelf} {s : TShelf} (h : (pre.map (·.1)).Pairwise (· < ·)) : okS k pre s = true ↔ sOk k s ∧ ((pre ++ [s]).map (·.1)).Pairwise (· < ·) := by
  rw [List.map_append, List.map_cons, List.map_nil, ← pw_snoc h]
  unfold okS sOk prevLt
  rw [List.getLast?_map]
  simp only [Bool.and_eq_true, decide_eq_true_eq, List.all_eq_true]
  cases pre.getLast? with
  | none =>
    simp only [Option.map_none]
    constructor
    · rintro ⟨a, _, b, c, d⟩; exact ⟨⟨a, b, c, d⟩, trivial⟩
    · rintro ⟨⟨a, b, c, d⟩, _⟩; exact ⟨a, trivial, b, c, d⟩
  | some y =>
    simp only [Option.map_some, ltS_eq, decide_eq_true_eq]
    constructor
    · rintro ⟨a, e, b, c, d⟩; exact ⟨⟨a, b, c, d⟩, e⟩
    · rintro ⟨⟨a, b, c, d⟩, e⟩; exact ⟨a, e, b, c, d⟩

theorem allS_iff {k : Nat} : ∀ {l pre : List TShelf}, (pre.map (·.1)).Pairwise (· < ·) → (allP (okS k) pre l = true ↔ (∀ s ∈ l, sOk k s) ∧ ((pre ++ l).map (·.1)).Pairwise (· < ·)) := by
  intro l
  induction l with
  | nil => intro pre h; simp [allP]; simpa using h
  | cons x l ih =>
    intro pre h
    simp only [allP, Bool.and_eq_true, okS_iff h]
    constructor
    · rintro ⟨⟨a, b⟩, c⟩
      have := (ih b).1 c
      refine ⟨?_, by simpa using this.2⟩
      intro s hs
      rcases List.mem_cons.1 hs with rfl | hs
      · exact a
      · exact this.1 s hs
    · rintro ⟨a, b⟩
      have b' : ((pre ++ [x]).map (·.1)).Pairwise (· < ·) := by
        refine b.sublist ?_
        simp only [List.map_append, List.map_cons, List.map_nil]
        exact List.Sublist.append (List.Sublist.refl _) (by simp)
      exact ⟨⟨a x (by simp), b'⟩, (ih b').2 ⟨fun s hs => a s (by simp [hs]), by simpa using b⟩⟩

theorem areB_iff {k : Nat} {b : TBooks} : areB k b = true ↔ ((∀ s ∈ b.1, sOk k s) ∧ (b.1.map (·.1)).Pairwise (· < ·)) ∧ b.1.length ≤ 12 ∧ inB b.2.1 0 1000000000 = true ∧ areDoc k b.2.2.1 = true := by
  unfold areB
  rw [Bool.and_eq_true, allS_iff (by simp)]
  simp only [Bool.and_eq_true, decide_eq_true_eq, List.nil_append]

/-! ### what they are worth -/
def worthS (sh : List TShelf) : Int := (sh.map (fun s => worthL s.2.2.1)).sum
theorem worthS_mid (pre post : List TShelf) (s : TShelf) : worthS (pre ++ s :: post) = worthS pre + worthL s.2.2.1 + worthS post := by simp [worthS]; omega
theorem worthL_snoc (l : List TLay) (x : TLay) : worthL (l ++ [x]) = worthL l + wl x := by simp [worthL]
theorem wl_new (q v : Int) : wl (q, v, 0, ()) = v := by
  unfold wl fcL
  simp only [Int.mul_zero]
  have : IntKind.wrap .i64 0 = 0 := by rw [IntKind.wrap_i64]; omega
  rw [this, Int.zero_tdiv, this]; omega

/-- Shelves that are right. -/
def ShOk (k : Nat) (sh : List TShelf) : Prop := (∀ s ∈ sh, sOk k s) ∧ (sh.map (·.1)).Pairwise (· < ·) ∧ sh.length ≤ 12

theorem sh_set {k : Nat} {pre post : List TShelf} {s s' : TShelf} (h : ShOk k (pre ++ s :: post)) (h1 : s'.1 = s.1) (h2 : sOk k s') : ShOk k (pre ++ s' :: post) := by
  obtain ⟨a, b, c⟩ := h
  refine ⟨?_, ?_, by simpa using c⟩
  · intro x hx
    rcases List.mem_append.1 hx with hx | hx
    · exact a x (by simp [hx])
    · rcases List.mem_cons.1 hx with rfl | hx
      · exact h2
      · exact a x (by simp [hx])
  · simpa [h1] using b

theorem recAt_ok {k : Nat} {pre post : List TShelf} {s : TShelf} (hs : sOk k s ∨ (isC k s.1 = true ∧ s.2.1 = [] ∧ s.2.2.1 = [])) (hpre : ∀ x ∈ pre, sOk k x) (hpost : ∀ x ∈ post, sOk k x) (hp : ((pre ++ s :: post).map (·.1)).Pairwise (· < ·)) (hl : (pre ++ s :: post).length ≤ 12)
    {e : TEv} (he : inB e.1 1 9999 = true) {sh' : List TShelf} (hr : recAt (pre ++ s :: post) (pre.length : Int) e = some sh') : ShOk k sh' ∧ worthS sh' = worthS (pre ++ s :: post) + e.2.2.2.2.2.1 := by
  unfold recAt at hr
  simp only [rdL_mid, wrL_mid] at hr
  unfold recL at hr
  split at hr
  case isFalse => simp at hr
  rename_i ha
  simp only [Option.map_some, Option.some.injEq] at hr
  subst hr
  have hids : s.2.1.length = s.2.2.1.length ∧ (∀ i ∈ s.2.1, inB i 1 9999 = true) ∧ isC k s.1 = true := by
    rcases hs with hs | ⟨h1, h2, h3⟩
    · exact ⟨hs.2.2.1, hs.2.2.2, hs.1⟩
    · rw [h2, h3]; exact ⟨rfl, by simp, h1⟩
  refine ⟨⟨?_, by simpa using hp, by simpa using hl⟩, ?_⟩
  · intro x hx
    rcases List.mem_append.1 hx with hx | hx
    · exact hpre x hx
    · rcases List.mem_cons.1 hx with rfl | hx
      · refine ⟨hids.2.2, ha, by simp [hids.1], ?_⟩
        intro i hi
        rcases List.mem_append.1 hi with hi | hi
        · exact hids.2.1 i hi
        · simp only [List.mem_singleton] at hi; subst hi; exact he
      · exact hpost x hx
  · rw [worthS_mid, worthS_mid]
    simp only
    rw [worthL_snoc, wl_new]
    omega

theorem takeWhile_lt : ∀ (l : List TShelf) (item : Key), ∀ s ∈ l.takeWhile (fun s => ltS s.1 item), s.1 < item := by
  intro l item
  induction l with
  | nil => simp
  | cons x l ih =>
    intro s hs
    rw [List.takeWhile_cons] at hs
    by_cases h : ltS x.1 item = true
    · rw [if_pos h] at hs
      rcases List.mem_cons.1 hs with rfl | hs
      · rw [ltS_eq] at h; simpa using h
      · exact ih s hs
    · rw [if_neg h] at hs; simp at hs
theorem dropWhile_gt : ∀ {l : List TShelf} {item : Key}, (l.map (·.1)).Pairwise (· < ·) → (∀ s ∈ l, s.1 ≠ item) → ∀ s ∈ l.dropWhile (fun s => ltS s.1 item), item < s.1 := by
  intro l item
  induction l with
  | nil => simp
  | cons x l ih =>
    intro hp hn s hs
    simp only [List.map_cons] at hp
    have hp' := List.pairwise_cons.1 hp
    rw [List.dropWhile_cons] at hs
    by_cases h : ltS x.1 item = true
    · rw [if_pos h] at hs
      exact ih hp'.2 (fun y hy => hn y (by simp [hy])) s hs
    · rw [if_neg h] at hs
      have hx : item < x.1 := by
        rw [ltS_eq, decide_eq_true_eq] at h
        by_cases q : item < x.1
        · exact q
        · exact absurd (key_tri h q) (hn x (by simp))
      rcases List.mem_cons.1 hs with rfl | hs
      · exact hx
      · exact key_trans hx (hp'.1 s.1 (List.mem_map_of_mem hs))

theorem recB_ok {k : Nat} {sh sh' : List TShelf} (h : ShOk k sh) {e : TEv} (hi : isC k e.2.2.2.1 = true) (he : inB e.1 1 9999 = true) (hr : recB sh e = some sh') : ShOk k sh' ∧ worthS sh' = worthS sh + e.2.2.2.2.2.1 := by
  obtain ⟨h1, h2, h3⟩ := h
  unfold recB at hr
  rcases idxS_cases sh e.2.2.2.1 with ⟨g1, g2⟩ | ⟨pre, s, post, g1, g2, g3, g4⟩
  · rw [g1, if_pos (by decide)] at hr
    split at hr
    case isTrue => simp at hr
    rename_i hlt
    have hsp : sh = insT sh e.2.2.2.1 ++ sh.dropWhile (fun s => ltS s.1 e.2.2.2.1) := List.takeWhile_append_dropWhile.symm
    have t1 := takeWhile_lt sh e.2.2.2.1
    have t2 := dropWhile_gt (item := e.2.2.2.1) h2 g2
    unfold insS at hr
    have t1' : ∀ s ∈ insT sh e.2.2.2.1, s.1 < e.2.2.2.1 := t1
    clear t1
    generalize insT sh e.2.2.2.1 = T at *
    generalize sh.dropWhile (fun s => ltS s.1 e.2.2.2.1) = D at *
    have hl : (T ++ (e.2.2.2.1, [], [], ()) :: D).length ≤ 12 := by
      have := congrArg List.length hsp
      simp only [List.length_append, List.length_cons] at this ⊢
      omega
    rw [hsp] at h1 h2 ⊢
    have hp : ((T ++ ((e.2.2.2.1, [], [], ()) : TShelf) :: D).map (·.1)).Pairwise (· < ·) := by
      rw [List.map_append] at h2 ⊢
      have := List.pairwise_append.1 h2
      rw [List.map_cons]
      refine List.pairwise_append.2 ⟨this.1, List.pairwise_cons.2 ⟨?_, this.2.1⟩, ?_⟩
      · intro x hx
        obtain ⟨s, hs, rfl⟩ := List.mem_map.1 hx
        exact t2 s hs
      · intro x hx y hy
        obtain ⟨s, hs, rfl⟩ := List.mem_map.1 hx
        rcases List.mem_cons.1 hy with rfl | hy
        · exact t1' s hs
        · exact this.2.2 _ hx y hy
    have := recAt_ok (s := (e.2.2.2.1, [], [], ())) (.inr ⟨hi, rfl, rfl⟩) (fun x hx => h1 x (by simp [hx])) (fun x hx => h1 x (by simp [hx])) hp hl he hr
    refine ⟨this.1, ?_⟩
    rw [this.2, worthS_mid]
    simp [worthS, worthL]
  · rw [g3, if_neg (by omega)] at hr
    subst g1
    exact recAt_ok (.inl (h1 s (by simp))) (fun x hx => h1 x (by simp [hx])) (fun x hx => h1 x (by simp [hx])) h2 h3 he hr
end VM
