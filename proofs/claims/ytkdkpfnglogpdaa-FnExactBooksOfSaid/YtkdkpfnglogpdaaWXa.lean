/- FnExactBooksOf: sizes, copies, sameness. -/
import Derived.Test.YtkdkpfnglogpdaaWVc
set_option linter.unusedVariables false
set_option linter.unusedSimpArgs false
namespace VM
open Go

abbrev kEv : CK := .pair (.int .i64) (.pair (.int .i64) (.pair (.int .i64) (.pair .str (.pair (.int .i64) (.pair (.int .i64) (.pair (.int .i64) .unit))))))

theorem szEvent_eq (k : Nat) (e : TEv) (hl : e.2.2.2.1.length ≤ maxLen) (left : Int) (h0 : 0 ≤ left) (h1 : left ≤ 1048576) :
    ∃ r : Int, VF.laws_szEvent k e left = some ((r, ()), ()) ∧ (r < 0 ∨ (0 ≤ r ∧ r ≤ left ∧ e.2.2.2.1.length ≤ 1048576)) := by
  have hmm : maxLen = 9223372036854775807 := rfl
  rw [hmm] at hl
  unfold VF.laws_szEvent
  rw [w64 (by omega) (by omega)]
  by_cases h : left - (e.2.2.2.1.length : Int) < 0
  · exact ⟨-1, by simp [h], .inl (by omega)⟩
  · exact ⟨left - (e.2.2.2.1.length : Int), by simp [h], .inr ⟨by omega, by omega, by omega⟩⟩

theorem szEventS_eq {k : Nat} (hk : 1048577 < k) (l : List TEv) (hl : OkD (.sl kEv) l) : ∃ r : Int, VF.laws_szEventS k l 1048576 = some ((r, ()), ()) ∧ (r < 0 ∨ (l.length ≤ 1048576 ∧ SmV l)) := by
  obtain ⟨hm, hall⟩ := hl
  have hmm : maxLen = 9223372036854775807 := rfl
  rw [hmm] at hm
  unfold VF.laws_szEventS
  have hw : IntKind.wrap .i64 (1048576 - (l.length : Int)) = 1048576 - (l.length : Int) := w64 (by omega) (by omega)
  rw [hw]
  by_cases h : 1048576 - (l.length : Int) < 0
  · exact ⟨-1, by simp [h], .inl (by omega)⟩
  · simp only [h, decide_false, sel_false, join_eq]
    obtain ⟨r, e1, e2⟩ := iter_sz (s := VF.laws_szEventS.l1 k l VF.laws_szEventS.j0) l (fun e => e.2.2.2.1.length ≤ 1048576)
      (fun ih pre x post left hx h0 h1 => by
        have hlen : pre.length < 1099511627776 := by have := congrArg List.length hx; simp at this; omega
        have hxm : x ∈ l := by rw [hx]; simp
        obtain ⟨r, e1, e2⟩ := szEvent_eq k x (hall x hxm).2.2.2.1 left h0 h1
        refine ⟨r, ?_, e2⟩
        rw [hx]
        obtain ⟨x1, x2, x3, x4, x5, x6, x7, ⟨⟩⟩ := x
        simp only [VF.laws_szEventS.l1, lt_mid, sel_true, inb_mid, grd_true, rdL_mid, e1, bnd_some', wnext hlen])
      (fun ih left => by simp [VF.laws_szEventS.l1, VF.laws_szEventS.j0])
      (k := k) (by omega) (left := 1048576 - (l.length : Int)) (by omega) (by omega)
    refine ⟨r, e1, ?_⟩
    rcases e2 with h | ⟨a, b, c⟩
    · exact .inl h
    · exact .inr ⟨by omega, c⟩

theorem toEventS_eq {k : Nat} (hk : 1048577 < k) {a : List TEv} (hl : a.length ≤ 1048576) : VF.laws_toEventS k a = some ((a, ()), ()) := by
  unfold VF.laws_toEventS
  rw [copy_grd (by omega) (by omega), grd_true, join_eq, Int.toNat_natCast]
  rw [iter_copy (s := VF.laws_toEventS.l1 k a VF.laws_toEventS.j0) (fun x => x) (0, 0, 0, [], 0, 0, 0, ()) VF.laws_toEventS.j0 a ?_ ?_ (by omega)]
  · simp [VF.laws_toEventS.j0]
  · intro ih pre x post q y rest hx hq
    have hpl : pre.length < 1099511627776 := by rw [hx] at hl; simp at hl; omega
    have i1 : inb (q ++ y :: rest) (pre.length : Int) = true := by rw [← hq]; exact inb_mid _ _ _
    have i2 : ∀ z, wrL (q ++ y :: rest) (pre.length : Int) z = q ++ z :: rest := by intro z; rw [← hq]; exact wrL_mid _ _ _ _
    rw [hx]
    obtain ⟨x1, x2, x3, x4, x5, x6, x7, ⟨⟩⟩ := x
    simp only [VF.laws_toEventS.l1, VF.laws_toEvent, lt_mid, sel_true, inb_mid, grd_true, i1, i2, rdL_mid, bnd_some', wnext hpl]
  · intro ih q
    simp [VF.laws_toEventS.l1]

theorem eqIntS_refl {k : Nat} {a : List Int} (hk : a.length < k) (hl : a.length ≤ 1048576) : VF.laws_eqIntS k a a = some ((true, ()), ()) := by
  unfold VF.laws_eqIntS
  simp only [decide_true, Bool.not_true, sel_false, join_eq]
  refine iter_go (fun i => (i : Int)) a.length _ (fun ih i hi => ?_) (fun ih => ?_) hk
  · unfold VF.laws_eqIntS.l1
    simp only [lt_nat hi, inb_nat hi, decide_true, Bool.not_true, sel_true, sel_false, grd_true, w_nat hi (by omega)]
  · unfold VF.laws_eqIntS.l1
    simp only [Int.lt_irrefl, decide_false, sel_false]
    rfl
theorem eqLayerS_refl {k : Nat} {a : List TLay} (hk : a.length < k) (hl : a.length ≤ 1048576) : VF.laws_eqLayerS k a a = some ((true, ()), ()) := by
  unfold VF.laws_eqLayerS
  simp only [decide_true, Bool.not_true, sel_false, join_eq]
  refine iter_go (fun i => (i : Int)) a.length _ (fun ih i hi => ?_) (fun ih => ?_) hk
  · unfold VF.laws_eqLayerS.l1 VF.laws_eqLayer
    simp only [lt_nat hi, inb_nat hi, decide_true, Bool.not_true, sel_true, sel_false, grd_true, bnd_some', w_nat hi (by omega)]
  · unfold VF.laws_eqLayerS.l1
    simp only [Int.lt_irrefl, decide_false, sel_false]
    rfl
theorem eqEventS_refl {k : Nat} {a : List TEv} (hk : a.length < k) (hl : a.length ≤ 1048576) : VF.laws_eqEventS k a a = some ((true, ()), ()) := by
  unfold VF.laws_eqEventS
  simp only [decide_true, Bool.not_true, sel_false, join_eq]
  refine iter_go (fun i => (i : Int)) a.length _ (fun ih i hi => ?_) (fun ih => ?_) hk
  · unfold VF.laws_eqEventS.l1 VF.laws_eqEvent
    simp only [lt_nat hi, inb_nat hi, decide_true, Bool.not_true, sel_true, sel_false, grd_true, bnd_some', w_nat hi (by omega)]
  · unfold VF.laws_eqEventS.l1
    simp only [Int.lt_irrefl, decide_false, sel_false]
    rfl
theorem eqShelfS_refl {k : Nat} (hk : 1048577 < k) {a : List TShelf} (hs : SmS a) : VF.laws_eqShelfS k a a = some ((true, ()), ()) := by
  obtain ⟨hl, hss⟩ := hs
  unfold VF.laws_eqShelfS
  simp only [decide_true, Bool.not_true, sel_false, join_eq]
  refine iter_go (fun i => (i : Int)) a.length _ (fun ih i hi => ?_) (fun ih => ?_) (by omega)
  · unfold VF.laws_eqShelfS.l1 VF.laws_eqShelf
    have hx := hss _ (rdL_mem hi ([], [], [], ()))
    simp only [lt_nat hi, inb_nat hi, decide_true, Bool.not_true, sel_true, sel_false, grd_true, bnd_some', w_nat hi (by omega)]
    rw [eqIntS_refl (by omega) (by omega), eqLayerS_refl (by omega) (by omega)]
    rfl
  · unfold VF.laws_eqShelfS.l1
    simp only [Int.lt_irrefl, decide_false, sel_false]
    rfl
theorem eqBooks_refl {k : Nat} (hk : 1048577 < k) {b : TBooks} (hs : SmB b) : VF.laws_eqBooks k b b = some ((true, ()), ()) := by
  unfold VF.laws_eqBooks
  rw [eqShelfS_refl hk hs.1, eqDocumentS_eq hk hs.2.1]
  simp

/-! ### marks -/
def mkI : List Int → Int → List Int
  | [], _ => []
  | _ :: l, m => m :: mkI l (m + 1)
def mkL : List TLay → Int → List TLay
  | [], _ => []
  | _ :: l, m => (m, m + 1, m + 1 + 1, ()) :: mkL l (m + 3)
def mkS : List TShelf → Int → List TShelf
  | [], _ => []
  | s :: l, m => (mtx m, mkI s.2.1 (m + 1), mkL s.2.2.1 (m + 1 + s.2.1.length), ()) :: mkS l (m + 1 + s.2.1.length + 3 * s.2.2.1.length)
def mkD : List TDoc → Int → List TDoc
  | [], _ => []
  | d :: l, m => (m, m + 1, marksE d.2.2.1 (m + 1 + 1), ()) :: mkD l (m + 1 + 1 + 2 * d.2.2.1.length)
def szS : List TShelf → Int
  | [] => 0
  | s :: l => 1 + s.2.1.length + 3 * s.2.2.1.length + szS l
def szD : List TDoc → Int
  | [] => 0
  | d :: l => 2 + 2 * d.2.2.1.length + szD l
theorem mkI_len : ∀ (l : List Int) (m : Int), (mkI l m).length = l.length
  | [], _ => rfl
  | _ :: l, m => by simp [mkI, mkI_len l]
theorem mkL_len : ∀ (l : List TLay) (m : Int), (mkL l m).length = l.length
  | [], _ => rfl
  | _ :: l, m => by simp [mkL, mkL_len l]
theorem mkS_len : ∀ (l : List TShelf) (m : Int), (mkS l m).length = l.length
  | [], _ => rfl
  | _ :: l, m => by simp [mkS, mkS_len l]
theorem mkD_len : ∀ (l : List TDoc) (m : Int), (mkD l m).length = l.length
  | [], _ => rfl
  | _ :: l, m => by simp [mkD, mkD_len l]

theorem markIntS_eq {k : Nat} {l : List Int} {m : Int} (hk : l.length < k) (hl : l.length ≤ 1048576) (hm : 0 ≤ m ∧ m < 1152921504606846976) : VF.laws_markIntS k l m = some ((m + l.length, ()), (mkI l m, ())) := by
  unfold VF.laws_markIntS
  rw [join_eq]
  have key : ∀ (post pre : List Int) (m : Int) (j : Nat), post.length < j → 0 ≤ m → m + post.length < 4611686018427387904 → pre.length + post.length ≤ 1048576 →
      iter (VF.laws_markIntS.l1 VF.laws_markIntS.j0) j (pre ++ post, m, (pre.length : Int)) = some ((m + post.length, ()), (pre ++ mkI post m, ())) := by
    intro post
    induction post with
    | nil =>
      intro pre m j hj h0 h1 h2
      obtain ⟨j, rfl⟩ : ∃ p, j = p + 1 := ⟨j - 1, by omega⟩
      rw [iter_succ]; simp [VF.laws_markIntS.l1, VF.laws_markIntS.j0, mkI]
    | cons x post ih =>
      intro pre m j hj h0 h1 h2
      obtain ⟨j, rfl⟩ : ∃ p, j = p + 1 := ⟨j - 1, by omega⟩
      simp only [List.length_cons] at hj h1 h2
      rw [iter_succ]
      simp only [VF.laws_markIntS.l1, lt_mid, sel_true, inb_mid, grd_true, wrL_mid, wnext (show pre.length < 1099511627776 by omega)]
      rw [w64 (by omega) (by omega)]
      have := ih (pre ++ [m]) (m + 1) j (by omega) (by omega) (by omega) (by simp; omega)
      simp only [List.append_assoc, List.singleton_append, List.length_append, List.length_cons, List.length_nil, Nat.zero_add] at this
      rw [this]
      simp only [mkI, List.length_cons]
      congr 3
      omega
  exact key l [] m k hk hm.1 (by omega) (by simpa using hl)

theorem markLayerS_eq {k : Nat} {l : List TLay} {m : Int} (hk : l.length < k) (hl : l.length ≤ 1048576) (hm : 0 ≤ m ∧ m < 1152921504606846976) : VF.laws_markLayerS k l m = some ((m + 3 * l.length, ()), (mkL l m, ())) := by
  unfold VF.laws_markLayerS
  rw [join_eq]
  have key : ∀ (post pre : List TLay) (m : Int) (j : Nat), post.length < j → 0 ≤ m → m + 3 * post.length < 4611686018427387904 → pre.length + post.length ≤ 1048576 →
      iter (VF.laws_markLayerS.l3 VF.laws_markLayerS.j0) j (pre ++ post, m, (pre.length : Int)) = some ((m + 3 * post.length, ()), (pre ++ mkL post m, ())) := by
    intro post
    induction post with
    | nil =>
      intro pre m j hj h0 h1 h2
      obtain ⟨j, rfl⟩ : ∃ p, j = p + 1 := ⟨j - 1, by omega⟩
      rw [iter_succ]; simp [VF.laws_markLayerS.l3, VF.laws_markLayerS.j0, mkL]
    | cons x post ih =>
      intro pre m j hj h0 h1 h2
      obtain ⟨j, rfl⟩ : ∃ p, j = p + 1 := ⟨j - 1, by omega⟩
      simp only [List.length_cons] at hj h1 h2
      have w1 : IntKind.wrap .i64 (m + 1) = m + 1 := w64 (by omega) (by omega)
      have w2 : IntKind.wrap .i64 (m + 1 + 1) = m + 1 + 1 := w64 (by omega) (by omega)
      have w3 : IntKind.wrap .i64 (m + 1 + 1 + 1) = m + 3 := by rw [w64 (by omega) (by omega)]; omega
      rw [iter_succ]
      simp only [VF.laws_markLayerS.l3, VF.laws_markLayerS.j2, VF.laws_markLayerS.j1, join_eq, lt_mid, sel_true, inb_mid, grd_true, rdL_mid, wrL_mid, w1, w2, w3, wnext (show pre.length < 1099511627776 by omega)]
      have := ih (pre ++ [(m, m + 1, m + 1 + 1, ())]) (m + 3) j (by omega) (by omega) (by omega) (by simp; omega)
      simp only [List.append_assoc, List.singleton_append, List.length_append, List.length_cons, List.length_nil, Nat.zero_add] at this
      rw [this]
      simp only [mkL, List.length_cons]
      congr 3
      omega
  exact key l [] m k hk hm.1 (by omega) (by simpa using hl)

theorem heldIntS_eq {k : Nat} {l : List Int} {m : Int} (hk : l.length < k) (hl : l.length ≤ 1048576) (hm : 0 ≤ m ∧ m < 1152921504606846976) : VF.laws_heldIntS k (mkI l m) m = some ((m + l.length, ()), ()) := by
  unfold VF.laws_heldIntS
  rw [join_eq]
  generalize hX : mkI l m = X
  have key : ∀ (post pre : List Int) (po : List Int) (m : Int) (j : Nat), X = pre ++ mkI post m → po.length = pre.length → post.length < j → 0 ≤ m → m + post.length < 4611686018427387904 → pre.length + post.length ≤ 1048576 →
      iter (VF.laws_heldIntS.l1 X VF.laws_heldIntS.j0) j (m, (pre.length : Int)) = some ((m + post.length, ()), ()) := by
    intro post
    induction post with
    | nil =>
      intro pre po m j hx hp hj h0 h1 h2
      obtain ⟨j, rfl⟩ : ∃ p, j = p + 1 := ⟨j - 1, by omega⟩
      rw [iter_succ, hx]; simp [VF.laws_heldIntS.l1, VF.laws_heldIntS.j0, mkI]
    | cons x post ih =>
      intro pre po m j hx hp hj h0 h1 h2
      obtain ⟨j, rfl⟩ : ∃ p, j = p + 1 := ⟨j - 1, by omega⟩
      simp only [List.length_cons] at hj h1 h2
      have hI := ih (pre ++ [m]) (po ++ [0]) (m + 1) j (by rw [hx]; simp [mkI]) (by simp; omega) (by omega) (by omega) (by omega) (by simp; omega)
      rw [iter_succ]
      generalize iter (VF.laws_heldIntS.l1 X VF.laws_heldIntS.j0) j = I at *
      have hx' : X = pre ++ m :: mkI post (m + 1) := hx
      have hxl : X.length = pre.length + (post.length + 1) := by rw [hx']; simp [mkI_len]
      unfold VF.laws_heldIntS.l1
      have c1 : decide ((pre.length : Int) < (X.length : Int)) = true := by simp; omega
      simp only [c1, sel_true]
      rw [inb_at hx' rfl, rdL_at hx' rfl, w64 (x := m + 1) (by omega) (by omega), w64 (x := (pre.length : Int) + 1) (by omega) (by omega)]
      simp only [grd_true, decide_true, Bool.not_true, sel_false]
      rw [show ((pre.length : Int) + 1) = ((pre ++ [m]).length : Int) by simp, hI]
      simp only [List.length_cons]
      congr 3
      omega
  exact key l [] [] m k hX.symm rfl hk hm.1 (by omega) (by simpa using hl)

theorem heldLayerS_eq {k : Nat} {l : List TLay} {m : Int} (hk : l.length < k) (hl : l.length ≤ 1048576) (hm : 0 ≤ m ∧ m < 1152921504606846976) : VF.laws_heldLayerS k (mkL l m) m = some ((m + 3 * l.length, ()), ()) := by
  unfold VF.laws_heldLayerS
  rw [join_eq]
  generalize hX : mkL l m = X
  have key : ∀ (post pre : List TLay) (m : Int) (j : Nat), X = pre ++ mkL post m → post.length < j → 0 ≤ m → m + 3 * post.length < 4611686018427387904 → pre.length + post.length ≤ 1048576 →
      iter (VF.laws_heldLayerS.l1 X VF.laws_heldLayerS.j0) j (m, (pre.length : Int)) = some ((m + 3 * post.length, ()), ()) := by
    intro post
    induction post with
    | nil =>
      intro pre m j hx hj h0 h1 h2
      obtain ⟨j, rfl⟩ : ∃ p, j = p + 1 := ⟨j - 1, by omega⟩
      rw [iter_succ, hx]; simp [VF.laws_heldLayerS.l1, VF.laws_heldLayerS.j0, mkL]
    | cons x post ih =>
      intro pre m j hx hj h0 h1 h2
      obtain ⟨j, rfl⟩ : ∃ p, j = p + 1 := ⟨j - 1, by omega⟩
      simp only [List.length_cons] at hj h1 h2
      have hI := ih (pre ++ [(m, m + 1, m + 1 + 1, ())]) (m + 3) j (by rw [hx]; simp [mkL]) (by omega) (by omega) (by omega) (by simp; omega)
      rw [iter_succ]
      generalize iter (VF.laws_heldLayerS.l1 X VF.laws_heldLayerS.j0) j = I at *
      have hx' : X = pre ++ (m, m + 1, m + 1 + 1, ()) :: mkL post (m + 3) := hx
      have hxl : X.length = pre.length + (post.length + 1) := by rw [hx']; simp [mkL_len]
      have w1 : IntKind.wrap .i64 (m + 1) = m + 1 := w64 (by omega) (by omega)
      have w2 : IntKind.wrap .i64 (m + 1 + 1) = m + 1 + 1 := w64 (by omega) (by omega)
      have w3 : IntKind.wrap .i64 (m + 1 + 1 + 1) = m + 3 := by rw [w64 (by omega) (by omega)]; omega
      unfold VF.laws_heldLayerS.l1
      have c1 : decide ((pre.length : Int) < (X.length : Int)) = true := by simp; omega
      simp only [c1, sel_true]
      rw [inb_at hx' rfl, rdL_at hx' rfl, w64 (x := (pre.length : Int) + 1) (by omega) (by omega)]
      simp only [grd_true, w1, w2, w3, decide_true, Bool.not_true, sel_false]
      rw [show ((pre.length : Int) + 1) = ((pre ++ [(m, m + 1, m + 1 + 1, ())]).length : Int) by simp, hI]
      simp only [List.length_cons]
      congr 3
      omega
  exact key l [] m k hX.symm hk hm.1 (by omega) (by simpa using hl)
end VM
