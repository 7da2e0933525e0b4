/- Layers. -/
import Derived.Test.YtkdkpfnglogpdaaWSg
set_option linter.unusedVariables false
set_option linter.unusedSimpArgs false
namespace VM
open Go

def prevFull (pre : List TLay) (x : TLay) : Bool := match pre.getLast? with | some y => !(decide (0 < x.2.2.1) && decide (y.2.2.1 < y.1)) | none => true
def okL (pre : List TLay) (x : TLay) : Bool := inB x.1 1 100000 && (inB x.2.1 0 1000000000 && (inB x.2.2.1 0 x.1 && prevFull pre x))
def areL (l : List TLay) : Bool := allP okL [] l && decide (l.length ≤ 24)

theorem impl_AreL_eq {k : Nat} {l : List TLay} (hk : 1048577 < k) (hl : l.length ≤ 1048576) : VF.impl_AreLayers k l = some ((areL l, ()), ()) := by
  unfold VF.impl_AreLayers
  rw [join_eq]
  have h1 := iter_allf (s := VF.impl_AreLayers.l2 k l (VF.impl_AreLayers.j0 l)) (fun (_ : Unit) i => (l, (l.length : Int), (i : Int))) l okL (fun s _ => s) (some ((false, ()), ())) (VF.impl_AreLayers.j0 l) (fun _ _ => True)
    (fun _ _ _ _ _ _ _ => trivial)
    (fun ih a pre x post hx _ => by
      have hl2 : pre.length + (post.length + 1) = l.length := by rw [hx]; simp
      unfold VF.impl_AreLayers.l2
      have c1 : decide ((pre.length : Int) < (l.length : Int)) = true := by simp; omega
      simp only [c1, sel_true, join_eq, in_eq, bnd_some', VF.impl_AreLayers.j1]
      rw [inb_at hx rfl, rdL_at hx rfl, w64 (x := (pre.length : Int) + 1) (by omega) (by omega)]
      simp only [grd_true, okL]
      cases inB x.1 1 100000 <;> simp only [Bool.not_true, Bool.not_false, sel_true, sel_false, Bool.false_and, Bool.true_and]
      cases inB x.2.1 0 1000000000 <;> simp only [Bool.not_true, Bool.not_false, sel_true, sel_false, Bool.false_and, Bool.true_and]
      cases inB x.2.2.1 0 x.1 <;> simp only [Bool.not_true, Bool.not_false, sel_true, sel_false, Bool.false_and, Bool.true_and]
      rcases List.eq_nil_or_concat pre with rfl | ⟨q, y, rfl⟩
      · simp [prevFull]
      · have e1 : IntKind.wrap .i64 (((q.concat y).length : Int) - 1) = (q.length : Int) := by rw [w64 (by omega) (by omega)]; simp
        have hx' : l = q ++ y :: (x :: post) := by rw [hx]; simp
        rw [e1, inb_at hx' rfl, rdL_at hx' rfl]
        have c2 : decide (0 < ((q.concat y).length : Int)) = true := by simp
        have c3 : prevFull (q.concat y) x = !(decide (0 < x.2.2.1) && decide (y.2.2.1 < y.1)) := by simp [prevFull]
        simp only [c2, c3, sel_true, grd_true]
        by_cases h4 : 0 < x.2.2.1 <;> by_cases h5 : y.2.2.1 < y.1 <;> simp [h4, h5])
    (fun ih a _ => by simp [VF.impl_AreLayers.l2])
    (k := k) (by omega) (a := ()) trivial
  rw [show ((0 : Nat) : Int) = 0 from rfl] at h1
  rw [h1]
  have h12 : decide ((l.length : Int) ≤ 24) = decide (l.length ≤ 24) := by by_cases h : l.length ≤ 24 <;> simp [h] <;> omega
  simp only [areL, VF.impl_AreLayers.j0, h12]
  cases allP okL [] l <;> rfl

theorem spec_AreL_eq {k : Nat} {l : List TLay} (hk : 1048577 < k) (hl : l.length ≤ 1048576) : VF.spec_AreLayers k l = some ((areL l, ()), ()) := by
  unfold VF.spec_AreLayers
  rw [join_eq]
  have h1 := iter_allf (s := VF.spec_AreLayers.l2 k l (VF.spec_AreLayers.j0 l)) (fun (_ : Unit) i => (i : Int)) l okL (fun s _ => s) (some ((false, ()), ())) (VF.spec_AreLayers.j0 l) (fun _ _ => True)
    (fun _ _ _ _ _ _ _ => trivial)
    (fun ih a pre x post hx _ => by
      have hl2 : pre.length + (post.length + 1) = l.length := by rw [hx]; simp
      unfold VF.spec_AreLayers.l2
      have c1 : decide ((pre.length : Int) < (l.length : Int)) = true := by simp; omega
      simp only [c1, sel_true, join_eq, l1In_eq, bnd_some', VF.spec_AreLayers.j1]
      rw [inb_at hx rfl, rdL_at hx rfl, w64 (x := (pre.length : Int) + 1) (by omega) (by omega)]
      simp only [grd_true, okL]
      cases inB x.1 1 100000 <;> simp only [Bool.not_true, Bool.not_false, sel_true, sel_false, Bool.false_and, Bool.true_and]
      cases inB x.2.1 0 1000000000 <;> simp only [Bool.not_true, Bool.not_false, sel_true, sel_false, Bool.false_and, Bool.true_and]
      cases inB x.2.2.1 0 x.1 <;> simp only [Bool.not_true, Bool.not_false, sel_true, sel_false, Bool.false_and, Bool.true_and]
      rcases List.eq_nil_or_concat pre with rfl | ⟨q, y, rfl⟩
      · simp [prevFull]
      · have e1 : IntKind.wrap .i64 (((q.concat y).length : Int) - 1) = (q.length : Int) := by rw [w64 (by omega) (by omega)]; simp
        have hx' : l = q ++ y :: (x :: post) := by rw [hx]; simp
        rw [e1, inb_at hx' rfl, rdL_at hx' rfl]
        have c2 : decide (0 < ((q.concat y).length : Int)) = true := by simp
        have c3 : prevFull (q.concat y) x = !(decide (0 < x.2.2.1) && decide (y.2.2.1 < y.1)) := by simp [prevFull]
        simp only [c2, c3, sel_true, grd_true]
        by_cases h4 : 0 < x.2.2.1 <;> by_cases h5 : y.2.2.1 < y.1 <;> simp [h4, h5])
    (fun ih a _ => by simp [VF.spec_AreLayers.l2])
    (k := k) (by omega) (a := ()) trivial
  rw [show ((0 : Nat) : Int) = 0 from rfl] at h1
  rw [h1]
  have h12 : decide ((l.length : Int) ≤ 24) = decide (l.length ≤ 24) := by by_cases h : l.length ≤ 24 <;> simp [h] <;> omega
  simp only [areL, VF.spec_AreLayers.j0, h12]
  cases allP okL [] l <;> rfl

theorem areL_len {l : List TLay} (h : areL l = true) : l.length ≤ 24 := by
  simp only [areL, Bool.and_eq_true, decide_eq_true_eq] at h; exact h.2
def LayOk (x : TLay) : Prop := 1 ≤ x.1 ∧ x.1 ≤ 100000 ∧ 0 ≤ x.2.1 ∧ x.2.1 ≤ 1000000000 ∧ 0 ≤ x.2.2.1 ∧ x.2.2.1 ≤ x.1
theorem areL_ok {l : List TLay} (h : areL l = true) : ∀ x ∈ l, LayOk x := by
  simp only [areL, Bool.and_eq_true] at h
  intro x hx
  obtain ⟨q, hq⟩ := allP_mem h.1 x hx
  simp only [okL, inB, Bool.and_eq_true, decide_eq_true_eq] at hq
  unfold LayOk
  omega

theorem copyL_eq {k : Nat} {l : List TLay} (hl : l.length ≤ 1048576) : VF.impl_copyLayers k l = some ((l, ()), ()) := by
  unfold VF.impl_copyLayers
  rw [fits_of (by decide) (by omega)]; rfl

def recL (l : List TLay) (q v : Int) : Option (List TLay) := if areL (l ++ [(q, v, 0, ())]) = true then some (l ++ [(q, v, 0, ())]) else none
theorem impl_recL_eq {k : Nat} (hk : 1048577 < k) {l : List TLay} (hl : l.length ≤ 1000) (q v : Int) : VF.impl_ReceiveLayer k l q v = some (((recL l q v).getD [], (recL l q v).isSome, ()), ()) := by
  unfold VF.impl_ReceiveLayer
  rw [copyL_eq (by omega)]
  simp only [bnd_some']
  rw [fits_of (by decide) (by omega), impl_AreL_eq hk (by simp; omega)]
  simp only [grd_true, bnd_some', sel_if, recL]
  by_cases h : areL (l ++ [(q, v, 0, ())]) = true <;> simp [h]
theorem spec_recL_eq {k : Nat} (hk : 1048577 < k) {l : List TLay} (hl : l.length ≤ 1000) (q v : Int) : VF.spec_ReceiveLayer k l q v = some (((recL l q v).getD [], (recL l q v).isSome, ()), ()) := by
  unfold VF.spec_ReceiveLayer
  simp only [List.nil_append]
  rw [fits_of (by decide) (by omega), fits_of (by decide) (by omega), spec_AreL_eq hk (by simp; omega)]
  simp only [grd_true, bnd_some', sel_if, recL]
  by_cases h : areL (l ++ [(q, v, 0, ())]) = true <;> simp [h]

/-- What is left. -/
def leftP (l : List TLay) : Int := l.foldl (fun s x => s + (x.1 - x.2.2.1)) 0
def leftL (l : List TLay) : Int := if areL l = true then leftP l else 0
theorem left_bound : ∀ {l : List TLay} {s : Int} {n : Nat}, (∀ x ∈ l, LayOk x) → l.length ≤ n → 0 ≤ s → s ≤ l.foldl (fun s x => s + (x.1 - x.2.2.1)) s ∧ l.foldl (fun s x => s + (x.1 - x.2.2.1)) s ≤ s + 100000 * n := by
  intro l
  induction l with
  | nil => intro s n _ _ _; simp; omega
  | cons x l ih =>
    intro s n h hn h0
    have hx := h x (by simp)
    unfold LayOk at hx
    simp only [List.length_cons] at hn
    have := ih (s := s + (x.1 - x.2.2.1)) (n := n - 1) (fun y hy => h y (by simp [hy])) (by omega) (by omega)
    rw [List.foldl_cons]
    omega

theorem impl_leftL_eq {k : Nat} (hk : 1048577 < k) {l : List TLay} (hl : l.length ≤ 1000) : VF.impl_LeftOf k l = some ((leftL l, ()), ()) := by
  unfold VF.impl_LeftOf
  rw [impl_AreL_eq hk (by omega)]
  simp only [bnd_some', sel_if, leftL]
  by_cases h : areL l = true
  case neg => simp [h]
  simp only [h, Bool.not_true, Bool.false_eq_true, if_false, if_true, join_eq]
  have hok := areL_ok h
  have hlen := areL_len h
  have := iter_fold (s := VF.impl_LeftOf.l1 VF.impl_LeftOf.j0) (fun (a : Int) i => (a, l, (l.length : Int), (i : Int))) l (fun s x => s + (x.1 - x.2.2.1)) VF.impl_LeftOf.j0 (fun pre a => 0 ≤ a ∧ a ≤ 100000 * pre.length)
    (fun a pre x post e h => by
      have hx := hok x (by rw [e]; simp)
      unfold LayOk at hx
      simp only [List.length_append, List.length_cons, List.length_nil]
      omega)
    (fun ih a pre x post e h => by
      have hl2 : pre.length + (post.length + 1) = l.length := by rw [e]; simp
      have hx := hok x (by rw [e]; simp)
      unfold LayOk at hx
      unfold VF.impl_LeftOf.l1
      have c1 : decide ((pre.length : Int) < (l.length : Int)) = true := by simp; omega
      simp only [c1, sel_true]
      rw [inb_at e rfl, rdL_at e rfl, w64 (x := (pre.length : Int) + 1) (by omega) (by omega), w64 (x := x.1 - x.2.2.1) (by omega) (by omega), w64 (by omega) (by omega)]
      rfl)
    (fun ih a h => by simp [VF.impl_LeftOf.l1])
    (k := k) (by omega) (a := 0) ⟨by omega, by simp⟩
  have h2 : iter (VF.impl_LeftOf.l1 VF.impl_LeftOf.j0) k (0, l, (l.length : Int), 0) = _ := this
  rw [h2]; rfl

theorem spec_leftL_eq {k : Nat} (hk : 1048577 < k) {l : List TLay} (hl : l.length ≤ 1000) : VF.spec_LeftOf k l = some ((leftL l, ()), ()) := by
  unfold VF.spec_LeftOf
  simp only [leftL, join_eq]
  by_cases h : areL l = true
  case neg =>
    obtain ⟨k, rfl⟩ : ∃ m, k = m + 1 := ⟨k - 1, by omega⟩
    rw [iter_succ]
    generalize iter _ k = I
    unfold VF.spec_LeftOf.l1
    rw [spec_AreL_eq hk (by omega)]
    simp only [bnd_some', sel_if, h, if_false, VF.spec_LeftOf.j0, Bool.false_eq_true]
    simp
  simp only [h, if_true]
  have hok := areL_ok h
  have hlen := areL_len h
  have := iter_fold (s := VF.spec_LeftOf.l1 k l VF.spec_LeftOf.j0) (fun (a : Int) i => (a, (i : Int))) l (fun s x => s + (x.1 - x.2.2.1)) VF.spec_LeftOf.j0 (fun pre a => 0 ≤ a ∧ a ≤ 100000 * pre.length)
    (fun a pre x post e h => by
      have hx := hok x (by rw [e]; simp)
      unfold LayOk at hx
      simp only [List.length_append, List.length_cons, List.length_nil]
      omega)
    (fun ih a pre x post e h9 => by
      have hl2 : pre.length + (post.length + 1) = l.length := by rw [e]; simp
      have hx := hok x (by rw [e]; simp)
      unfold LayOk at hx
      unfold VF.spec_LeftOf.l1
      have c1 : decide ((pre.length : Int) < (l.length : Int)) = true := by simp; omega
      simp only [c1, sel_true]
      rw [spec_AreL_eq hk (by omega), inb_at e rfl, rdL_at e rfl, w64 (x := (pre.length : Int) + 1) (by omega) (by omega), w64 (x := a + x.1) (by omega) (by omega), w64 (by omega) (by omega)]
      simp only [bnd_some', h, sel_true, grd_true]
      rw [show a + x.1 - x.2.2.1 = a + (x.1 - x.2.2.1) by omega]
      rfl)
    (fun ih a h => by simp [VF.spec_LeftOf.l1])
    (k := k) (by omega) (a := 0) ⟨by omega, by simp⟩
  have h2 : iter (VF.spec_LeftOf.l1 k l VF.spec_LeftOf.j0) k (0, 0) = _ := this
  rw [h2]; rfl

def fcL (x : TLay) (u : Int) : Int := IntKind.wrap .i64 (Int.tdiv (IntKind.wrap .i64 (x.2.1 * u)) x.1)
theorem impl_fc_eq (k : Nat) {x : TLay} (h : x.1 ≠ 0) (u : Int) : VF.impl_firstCost k x u = some ((fcL x u, ()), ()) := by
  unfold VF.impl_firstCost
  simp [h, fcL]
theorem spec_fc_eq (k : Nat) {x : TLay} (h : x.1 ≠ 0) (u : Int) : VF.spec_l31Cost k x u = some ((fcL x u, ()), ()) := by
  unfold VF.spec_l31Cost
  simp [h, fcL]

/-- Pieces are taken. -/
def issF (a : Int × List TLay × Int) (x : TLay) : Int × List TLay × Int :=
  (a.1 - mnI a.1 (x.1 - x.2.2.1), a.2.1 ++ [(x.1, x.2.1, x.2.2.1 + mnI a.1 (x.1 - x.2.2.1), ())], IntKind.wrap .i64 (a.2.2 + (fcL x (x.2.2.1 + mnI a.1 (x.1 - x.2.2.1)) - fcL x x.2.2.1)))
def issP (l : List TLay) (q : Int) : List TLay × Int := (l.foldl issF (q, [], 0)).2
def issL (l : List TLay) (q : Int) : Option (List TLay × Int) := if areL l = true ∧ 1 ≤ q ∧ q ≤ leftL l then some (issP l q) else none

theorem wrap_add (a b : Int) : IntKind.wrap .i64 (a + IntKind.wrap .i64 b) = IntKind.wrap .i64 (a + b) := by simp only [IntKind.wrap_i64]; omega
theorem wrap_add' (a b : Int) : IntKind.wrap .i64 (IntKind.wrap .i64 a + b) = IntKind.wrap .i64 (a + b) := by simp only [IntKind.wrap_i64]; omega
theorem wrap_sub' (a b : Int) : IntKind.wrap .i64 (IntKind.wrap .i64 a - b) = IntKind.wrap .i64 (a - b) := by simp only [IntKind.wrap_i64]; omega
theorem wrap_wrap (a : Int) : IntKind.wrap .i64 (IntKind.wrap .i64 a) = IntKind.wrap .i64 a := by simp only [IntKind.wrap_i64]; omega

theorem mn_bd {q n : Int} (h0 : 0 ≤ q) (hn : 0 ≤ n) : 0 ≤ mnI q n ∧ mnI q n ≤ q ∧ mnI q n ≤ n := by
  unfold mnI; split <;> omega

theorem impl_issL_eq {k : Nat} (hk : 1048577 < k) {l : List TLay} (hl : l.length ≤ 1000) (q : Int) : VF.impl_IssueLayers k l q = some ((((issL l q).getD ([], 0)).1, ((issL l q).getD ([], 0)).2, (issL l q).isSome, ()), ()) := by
  unfold VF.impl_IssueLayers
  simp only [join_eq]
  rw [impl_AreL_eq hk (by omega), impl_leftL_eq hk hl]
  simp only [bnd_some', in_eq, sel_if, issL]
  by_cases h : areL l = true
  case neg => simp [h]
  by_cases h2 : 1 ≤ q ∧ q ≤ leftL l
  case neg =>
    have : inB q 1 (leftL l) = false := by
      unfold inB; simp only [Bool.and_eq_false_iff, decide_eq_false_iff_not]; omega
    simp [h, h2, this]
  have h3 : inB q 1 (leftL l) = true := by
    unfold inB; simp only [Bool.and_eq_true, decide_eq_true_eq]; exact h2
  simp only [h, h3, h2, Bool.not_true, Bool.false_eq_true, if_false, and_self, if_true, Option.getD_some, Option.isSome_some]
  unfold VF.impl_IssueLayers.j2
  rw [copyL_eq (by omega)]
  simp only [bnd_some', join_eq]
  have hok := areL_ok h
  have hlen := areL_len h
  have hq : q ≤ 2400000 := by
    have := (left_bound (s := 0) hok hlen (by omega)).2
    have e : leftL l = leftP l := by simp [leftL, h]
    rw [e] at h2
    have h9 := h2.2
    unfold leftP at h9
    omega
  have key : ∀ (post done : List TLay) (q c : Int), (∀ x ∈ post, LayOk x) → 0 ≤ q → q ≤ 2400000 → done.length + post.length = l.length → ∀ n, post.length < n →
      iter (VF.impl_IssueLayers.l1 k VF.impl_IssueLayers.j0) n (q, done ++ post, c, (l.length : Int), (done.length : Int)) = VF.impl_IssueLayers.j0 (post.foldl issF (q, done, c)).2 := by
    intro post
    induction post with
    | nil =>
      intro done q c _ _ _ hlen n hn
      obtain ⟨n, rfl⟩ : ∃ m, n = m + 1 := ⟨n - 1, by omega⟩
      rw [iter_succ]
      unfold VF.impl_IssueLayers.l1
      simp only [List.length_nil, Nat.add_zero] at hlen
      simp [hlen]
    | cons x post ih =>
      intro done q c hok hq0 hq1 hlen n hn
      obtain ⟨n, rfl⟩ : ∃ m, n = m + 1 := ⟨n - 1, by omega⟩
      simp only [List.length_cons] at hlen hn
      have hx := hok x (by simp)
      unfold LayOk at hx
      have hm := mn_bd hq0 (n := x.1 - x.2.2.1) (by omega)
      have hI := ih (done ++ [(x.1, x.2.1, x.2.2.1 + mnI q (x.1 - x.2.2.1), ())]) (q - mnI q (x.1 - x.2.2.1)) (IntKind.wrap .i64 (c + (fcL x (x.2.2.1 + mnI q (x.1 - x.2.2.1)) - fcL x x.2.2.1))) (fun y hy => hok y (by simp [hy])) (by omega) (by omega) (by simp; omega) n (by omega)
      rw [iter_succ]
      generalize iter (VF.impl_IssueLayers.l1 k VF.impl_IssueLayers.j0) n = I at *
      unfold VF.impl_IssueLayers.l1
      have c1 : decide ((done.length : Int) < (l.length : Int)) = true := by simp; omega
      simp only [c1, sel_true, rdL_mid, inb_mid, grd_true, wrL_mid]
      rw [w64 (x := x.1 - x.2.2.1) (by omega) (by omega), w64 (x := x.2.2.1 + _) (by omega) (by omega), w64 (x := (done.length : Int) + 1) (by omega) (by omega), w64 (x := q - _) (by omega) (by omega)]
      have f1 : VF.impl_firstCost k (x.1, x.2.1, x.2.2.1, ()) (x.2.2.1 + mnI q (x.1 - x.2.2.1)) = _ := impl_fc_eq k (x := x) (by omega) _
      have f2 : VF.impl_firstCost k (x.1, x.2.1, x.2.2.1, ()) x.2.2.1 = _ := impl_fc_eq k (x := x) (by omega) _
      rw [f1, f2]
      simp only [bnd_some', wrap_add, List.foldl_cons]
      have e9 : ((done ++ [(x.1, x.2.1, x.2.2.1 + mnI q (x.1 - x.2.2.1), ())]).length : Int) = (done.length : Int) + 1 := by simp
      rw [e9] at hI
      rw [List.append_assoc] at hI
      exact hI
  have := key l [] q 0 hok (by omega) hq (by simp) k (by omega)
  have h5 : iter (VF.impl_IssueLayers.l1 k VF.impl_IssueLayers.j0) k (q, l, 0, (l.length : Int), 0) = _ := this
  rw [h5]; rfl

theorem issF_zero : ∀ (post done : List TLay) (c : Int), (∀ x ∈ post, LayOk x) → post.foldl issF (0, done, IntKind.wrap .i64 c) = (0, done ++ post, IntKind.wrap .i64 c) := by
  intro post
  induction post with
  | nil => intro done c _; simp
  | cons x post ih =>
    intro done c h
    have hx := h x (by simp)
    unfold LayOk at hx
    have hm : mnI 0 (x.1 - x.2.2.1) = 0 := by unfold mnI; split <;> omega
    rw [List.foldl_cons]
    have : issF (0, done, IntKind.wrap .i64 c) x = (0, done ++ [x], IntKind.wrap .i64 c) := by
      unfold issF
      simp only [hm, Int.add_zero, Int.sub_self, wrap_wrap]
    rw [this, ih _ _ (fun y hy => h y (by simp [hy]))]
    simp

theorem spec_issL_eq {k : Nat} (hk : 1048577 < k) {l : List TLay} (hl : l.length ≤ 1000) (q : Int) : VF.spec_IssueLayers k l q = some ((((issL l q).getD ([], 0)).1, ((issL l q).getD ([], 0)).2, (issL l q).isSome, ()), ()) := by
  unfold VF.spec_IssueLayers
  simp only [join_eq]
  rw [spec_AreL_eq hk (by omega), spec_leftL_eq hk hl]
  simp only [bnd_some', l1In_eq, sel_if, issL]
  by_cases h : areL l = true
  case neg => simp [h]
  by_cases h2 : 1 ≤ q ∧ q ≤ leftL l
  case neg =>
    have : inB q 1 (leftL l) = false := by
      unfold inB; simp only [Bool.and_eq_false_iff, decide_eq_false_iff_not]; omega
    simp [h, h2, this]
  have h3 : inB q 1 (leftL l) = true := by
    unfold inB; simp only [Bool.and_eq_true, decide_eq_true_eq]; exact h2
  simp only [h, h3, h2, Bool.not_true, Bool.false_eq_true, if_false, and_self, if_true, Option.getD_some, Option.isSome_some]
  unfold VF.spec_IssueLayers.j2
  rw [fits_of (by decide) (by omega)]
  simp only [grd_true, join_eq, List.nil_append]
  have hok := areL_ok h
  have hlen := areL_len h
  have hq : q ≤ 2400000 := by
    have := (left_bound (s := 0) hok hlen (by omega)).2
    have e : leftL l = leftP l := by simp [leftL, h]
    rw [e] at h2
    have h9 := h2.2
    unfold leftP at h9
    omega
  have key : ∀ (post done : List TLay) (q c : Int), (∀ x ∈ post, LayOk x) → 0 ≤ q → q ≤ 2400000 → done.length + post.length = l.length → ∀ n, post.length < n →
      iter (VF.spec_IssueLayers.l1 k VF.spec_IssueLayers.j0) n (done ++ post, q, IntKind.wrap .i64 c, (done.length : Int)) = VF.spec_IssueLayers.j0 (post.foldl issF (q, done, IntKind.wrap .i64 c)).2 := by
    intro post
    induction post with
    | nil =>
      intro done q c _ _ _ hlen n hn
      obtain ⟨n, rfl⟩ : ∃ m, n = m + 1 := ⟨n - 1, by omega⟩
      rw [iter_succ]
      unfold VF.spec_IssueLayers.l1
      simp
    | cons x post ih =>
      intro done q c hok hq0 hq1 hlen n hn
      obtain ⟨n, rfl⟩ : ∃ m, n = m + 1 := ⟨n - 1, by omega⟩
      simp only [List.length_cons] at hlen hn
      have hx := hok x (by simp)
      by_cases hz : q = 0
      · subst hz
        rw [issF_zero _ _ _ hok, iter_succ]
        unfold VF.spec_IssueLayers.l1
        simp [sel_if]
      unfold LayOk at hx
      have hm := mn_bd hq0 (n := x.1 - x.2.2.1) (by omega)
      have hI := ih (done ++ [(x.1, x.2.1, x.2.2.1 + mnI q (x.1 - x.2.2.1), ())]) (q - mnI q (x.1 - x.2.2.1)) (IntKind.wrap .i64 c + (fcL x (x.2.2.1 + mnI q (x.1 - x.2.2.1)) - fcL x x.2.2.1)) (fun y hy => hok y (by simp [hy])) (by omega) (by omega) (by simp; omega) n (by omega)
      rw [iter_succ]
      generalize iter (VF.spec_IssueLayers.l1 k VF.spec_IssueLayers.j0) n = I at *
      unfold VF.spec_IssueLayers.l1
      have c1 : decide ((done.length : Int) < ((done ++ x :: post).length : Int)) = true := by simp; omega
      have c2 : decide (0 < q) = true := by simp; omega
      simp only [c1, c2, sel_true, rdL_mid, inb_mid, grd_true, wrL_mid]
      rw [w64 (x := x.1 - x.2.2.1) (by omega) (by omega), w64 (x := x.2.2.1 + _) (by omega) (by omega), w64 (x := (done.length : Int) + 1) (by omega) (by omega), w64 (x := q - _) (by omega) (by omega)]
      have f1 : VF.spec_l31Cost k (x.1, x.2.1, x.2.2.1, ()) (x.2.2.1 + mnI q (x.1 - x.2.2.1)) = _ := spec_fc_eq k (x := x) (by omega) _
      have f2 : VF.spec_l31Cost k (x.1, x.2.1, x.2.2.1, ()) x.2.2.1 = _ := spec_fc_eq k (x := x) (by omega) _
      rw [f1, f2]
      simp only [bnd_some', wrap_sub', List.foldl_cons]
      have e9 : ((done ++ [(x.1, x.2.1, x.2.2.1 + mnI q (x.1 - x.2.2.1), ())]).length : Int) = (done.length : Int) + 1 := by simp
      rw [e9] at hI
      rw [List.append_assoc] at hI
      rw [show IntKind.wrap .i64 c + fcL x (x.2.2.1 + mnI q (x.1 - x.2.2.1)) - fcL x x.2.2.1 = IntKind.wrap .i64 c + (fcL x (x.2.2.1 + mnI q (x.1 - x.2.2.1)) - fcL x x.2.2.1) by omega]
      exact hI
  have := key l [] q 0 hok (by omega) hq (by simp) k (by omega)
  have h5 : iter (VF.spec_IssueLayers.l1 k VF.spec_IssueLayers.j0) k (l, q, 0, 0) = _ := this
  rw [h5]; rfl
end VM
