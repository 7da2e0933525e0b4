/- Stores. -/
import Derived.Test.YtljofbhokcdklaaVMo
set_option linter.unusedVariables false
set_option linter.unusedSimpArgs false
namespace VM
open Go

section
variable {P : Program} {F : Fx} {σ : St} {a : Act} {w : World} {g : Gh} {R : Type} {tt : List (Nat × TD)} {env : List Ct} {k : Nat} {o : Oper} {H : Nat → RE} {K : Upd → Option R} {y : R}

/-- A root's content turns; some roots are given up. -/
theorem Rl.mod (r : Rl F σ a w g) {m : Nat} (hm : H m = σ.h m) {T : List Nat} (hT : ∀ id ∈ T, H id = σ.h id) (hmT : m ∉ T) {c : RC} {ver : Nat} (hver : (σ.h m).ver ≤ ver) {fp : List Nat} {w' : World} {Z' : Nat → Prop}
    (hZZ : ∀ b, g.Z b → Z' b) (hZT : ∀ b, Z' b → g.Z b ∨ ∃ id ∈ T, b ∈ g.fp id)
    (os : w'.os = w.os) (tp : w'.tape = w.tape) (ou : w'.output = w.output) (sz : w.heap.size ≤ w'.heap.size)
    (fr : ∀ b, b < w.heap.size → b ∉ g.fp m → w'.heap[b]? = w.heap[b]?)
    (hfp : fp.Nodup) (hnew : ∀ b ∈ fp, ¬ Z' b ∧ (b ∈ g.fp m ∨ ∃ id ∈ T, b ∈ g.fp id))
    (hs : SameC (σ.h m).c c) (hat : ver = (σ.h m).ver → ∀ e xs, (σ.h m).c ≠ .row true e xs)
    (hrr : ∀ h' : Nat → RE, ∀ g' : Gh, g'.Z = Z' → Ext g w σ.h g' w' h' → RR g' w' h' ⟨(σ.h m).inc, ver, c⟩ (g.loc m) fp) :
    ∃ g', Rl F ⟨σ.s, setH σ.h ((m, ⟨(H m).inc, ver, c⟩) :: dead H T)⟩ a w' g' ∧ g'.Z = Z' ∧
      Ext g w σ.h g' w' (setH σ.h ((m, ⟨(H m).inc, ver, c⟩) :: dead H T)) := by
  let g' : Gh := ⟨Z', g.loc, fun id => if id = m then fp else if id ∈ T then [] else g.fp id⟩
  have hh : ∀ id, setH σ.h ((m, ⟨(H m).inc, ver, c⟩) :: dead H T) id = if id = m then ⟨(σ.h m).inc, ver, c⟩ else if id ∈ T then ⟨(σ.h id).inc + 1, 0, .none⟩ else σ.h id := by
    intro id
    rw [setH_cons, setH_dead, hm]
    by_cases e : id = m
    · simp [e]
    · rw [if_neg e, if_neg e]
      by_cases e2 : id ∈ T
      · rw [if_pos e2, if_pos e2, hT id e2]
      · rw [if_neg e2, if_neg e2]
  have hkeep : ∀ id, id ≠ m → ∀ b ∈ g.fp id, w'.heap[b]? = w.heap[b]? := by
    intro id h1 b hb
    refine fr b ((r.rt id).lt b hb) (fun h4 => h1 ?_)
    exact r.dj id m b hb h4
  have hZ : ∀ b, g.Z b → w'.heap[b]? = w.heap[b]? := fun b hb => fr b (r.zl b hb) (fun h => (r.sp m b h).1 hb)
  have x : Ext g w σ.h g' w' (setH σ.h ((m, ⟨(H m).inc, ver, c⟩) :: dead H T)) := by
    refine ⟨hZ, hZZ, fun id => ?_⟩
    rw [hh id]
    by_cases e : id = m
    · subst e
      right
      rw [if_pos rfl]
      exact ⟨rfl, hver, rfl, hs, fun hv ee xs hc => absurd hc (hat hv ee xs)⟩
    · rw [if_neg e]
      by_cases e2 : id ∈ T
      · left; simp [e2]
      · rw [if_neg e2]
        right
        refine ⟨rfl, Nat.le_refl _, rfl, SameC.refl _, fun _ ee xs hc p u hat => ?_⟩
        have hrow := r.rt id
        unfold RR at hrow
        rw [hc] at hrow
        exact RowAt.frame hrow (hkeep id e) hat
  refine ⟨g', ?_, rfl, x⟩
  refine r.step x ?_ ?_ ?_ ?_ ?_ ?_ os tp ou sz ?_ ?_
  · intro id
    rw [hh id]
    by_cases e : id = m
    · subst e
      simp only [if_true]
      have : g'.fp id = fp := by simp [g']
      rw [this]
      exact hrr _ g' rfl x
    · rw [if_neg e]
      by_cases e2 : id ∈ T
      · rw [if_pos e2]
        simp [RR, g', e, e2]
      · rw [if_neg e2]
        have : g'.fp id = g.fp id := by simp [g', e, e2]
        rw [this]
        exact (r.rt id).ext x (hkeep id e)
  · intro id
    show (if id = m then fp else if id ∈ T then [] else g.fp id).Nodup
    split
    · exact hfp
    · split
      · exact List.nodup_nil
      · exact r.nd id
  · intro id id' b h1 h2
    have key : ∀ id, b ∈ g'.fp id → id = m ∧ b ∈ fp ∨ id ≠ m ∧ id ∉ T ∧ b ∈ g.fp id := by
      intro id h
      have h : b ∈ (if id = m then fp else if id ∈ T then [] else g.fp id) := h
      split at h
      · exact .inl ⟨‹_›, h⟩
      · split at h
        · simp at h
        · exact .inr ⟨‹_›, ‹_›, h⟩
    have excl : ∀ id, id ≠ m → id ∉ T → b ∈ g.fp id → b ∈ fp → False := by
      intro id h1 h2 h3 h4
      rcases (hnew b h4).2 with h5 | ⟨id2, h5, h6⟩
      · exact h1 (r.dj id m b h3 h5)
      · rw [r.dj id id2 b h3 h6] at h2; exact h2 h5
    rcases key id h1 with ⟨a1, a2⟩ | ⟨a1, a2, a3⟩ <;> rcases key id' h2 with ⟨b1, b2⟩ | ⟨b1, b2, b3⟩
    · rw [a1, b1]
    · exact (excl id' b1 b2 b3 a2).elim
    · exact (excl id a1 a2 a3 b2).elim
    · exact r.dj id id' b a3 b3
  · intro id b h
    have h : b ∈ (if id = m then fp else if id ∈ T then [] else g.fp id) := h
    split at h
    · refine ⟨(hnew b h).1, ?_⟩
      rcases (hnew b h).2 with h5 | ⟨id2, h5, h6⟩
      · exact (r.sp m b h5).2
      · exact (r.sp id2 b h6).2
    · split at h
      · simp at h
      · rename_i h1 h2
        refine ⟨fun hz => ?_, (r.sp id b h).2⟩
        rcases hZT b hz with h3 | ⟨id2, h3, h4⟩
        · exact (r.sp id b h).1 h3
        · rw [r.dj id id2 b h h4] at h2; exact h2 h3
  · intro b hb
    rcases hZT b hb with h3 | ⟨id2, h3, h4⟩
    · exact Nat.lt_of_lt_of_le (r.zl b h3) sz
    · exact Nat.lt_of_lt_of_le ((r.rt id2).lt b h4) sz
  · intro b hb
    rcases hZT b hb with h3 | ⟨id2, h3, h4⟩
    · exact .inl h3
    · exact .inr (r.sp id2 b h4).2
  · intro b hb hu
    exact fr b hb (fun h => hu (r.sp m b h).2)
  · intro p hp hi
    rw [hh p.1] at hi
    refine ⟨?_, rfl⟩
    split at hi
    · rename_i e; rw [e]; exact hi
    · split at hi
      · have := r.p1 p hp
        simp at hi
        omega
      · exact hi

theorem run_storeVar_gen {t : TypeId} {c : CK} (ht : TypeIs P t c) {b off : Nat} {arr : Array Value} {bty : TypeId} (hb : w.heap[b]? = some (.cells arr bty (0, 0))) {v : Value} (hl : v.cells.size = c.size) (hfit : off + c.size ≤ arr.size)
    (h1 : ∀ u ∈ v.cells.toList, u.oneCell' = true) :
    (storeVar t ⟨b, off, none⟩ v).run P w = .ok () (w.setRow b (arr.toList.take off ++ (v.cells.toList ++ arr.toList.drop (off + c.size))).toArray) := by
  have hst := run_storeCells_at (P := P) b off bty v.cells.toList 0 arr w hb (by simp; omega) h1
  simp only [Nat.add_zero, Array.length_toList, hl, List.append_assoc] at hst
  unfold storeVar
  simp [ht.size, hl, hst]

theorem exec_store {t : TypeId} {x z : Operand} (ho : o.op = .store t x z) {c : CK} (ht : TypeIs P t c) {b off : Nat} (hx : a.eval x = .pointer (some ⟨b, off, none⟩)) {arr : Array Value} {bty : TypeId} (hb : w.heap[b]? = some (.cells arr bty (0, 0)))
    {us : List Value} (hu : (a.eval z).cells.toList = us) (hl : us.length = c.size) (hfit : off + c.size ≤ arr.size) (h1 : ∀ u ∈ us, u.oneCell' = true) :
    (execOp a.eval o).run P w = .ok .skip (w.setRow b (arr.toList.take off ++ (us ++ arr.toList.drop (off + c.size))).toArray) := by
  subst hu
  unfold execOp
  rw [ho]
  simp only [hx, Instr.storeAt, Instr.sureAddr, Sem.run_bind, Sem.run_pure, Result.andThen_ok, run_storeVar_gen ht hb (by simpa using hl) hfit h1]

theorem setRow_tape' (w : World) (g : Nat) (cs : Array Value) : (w.setRow g cs).tape = w.tape := rfl

theorem act_store (htt : TTok P tt) (r : Rl F σ a w g) (hH : HOk H σ.h o.dst) {t : TypeId} {x z : Operand} (ho : o.op = .store t x z) (h : act tt env k o (o.op.operands.toList.map σ.ev) H K = some y) : Goal P F σ a w g o K y := by
  unfold act at h
  rw [ho] at h
  simp only [Op.operands] at h
  split at h
  case h_2 => cases h
  rename_i av v hv
  simp at hv
  have hx : CVr g w σ.h av (a.eval x) := by have := ev_sound r x; rw [hv.1] at this; exact this
  have hz : SVr g w σ.h v (a.eval z) := by have := ev_sound r z; rw [hv.2] at this; exact this
  split at h
  case h_2 => cases h
  rename_i c hc
  obtain ⟨bb, fs, hl⟩ := kindT_some hc
  have hty := htt.is t c bb fs hl
  cases av with
  | vptr id inc off =>
    simp only at h
    split at h
    case h_2 => cases h
    rename_i cs hcs
    obtain ⟨k1, k2, k3⟩ := varAt_sound r hH hcs
    obtain ⟨hb, hK⟩ := cond_some h
    simp only [Bool.and_eq_true, Nat.ble_eq] at hb
    obtain ⟨hok, hlen, hfit⟩ := hb
    have hlen := Nat.eq_of_beq_eq_true hlen
    have hcells := hz.cells hok
    have hone := All2.one hok hcells
    obtain ⟨b, hloc, hptr⟩ := hx.2 k2 cs k3
    have hrr := r.rt id
    unfold RR at hrr
    rw [k3] at hrr
    obtain ⟨b', us, ty, m1, m2, m3, m4⟩ := hrr
    rw [hloc] at m1
    cases m1
    have hul := m4.length
    have hcl := hcells.length
    have run := exec_store (P := P) (w := w) (a := a) ho hty hptr m3 rfl (by omega) (by simp; omega) hone
    simp only [List.toList_toArray] at run
    rw [← hlen, hcl] at run
    obtain ⟨g', r', hZ, x'⟩ := Rl.mod (H := H) (T := []) (c := .var (patch cs off v.cells)) (ver := (σ.h id).ver) (fp := [b]) (w' := w.setRow b (us.take off ++ ((a.eval z).cells.toList ++ us.drop (off + (a.eval z).cells.toList.length))).toArray) (Z' := g.Z)
      r k1 (by simp) (by simp) (Nat.le_refl _) (fun _ h => h) (fun _ h => .inl h) rfl rfl rfl (by simp) (fun k _ hk => by
        rw [m2] at hk
        exact setRow_other w b k _ (by simpa using hk)) (by simp) (fun k hk => by
        simp only [List.mem_singleton] at hk
        subst hk
        have : k ∈ g.fp id := by rw [m2]; simp
        exact ⟨(r.sp id k this).1, .inl this⟩)
      (by rw [k3]; exact ⟨fun d e xs h => (by cases h), fun cs' h => ⟨cs, rfl⟩, fun k e xs h => (by cases h)⟩) (fun _ e xs hc => by rw [k3] at hc; cases hc) (fun h' g' hz' xx => by
        refine ⟨b, _, ty, hloc, rfl, setRow_heap w b _ _ ty _ m3, ?_⟩
        exact All2.patch off _ (m4.mono fun _ _ => CVr.ext xx) (hcells.mono fun _ _ => CVr.ext xx) hcl)
    refine ⟨_, hK, OpPost.skip run ⟨g', ?_, trivial⟩⟩
    rw [k1] at r' ⊢
    exact r'
  | ptr id inc ver p i off c' =>
    simp only at h
    split at h
    case isFalse => cases h
    rename_i hcc
    subst hcc
    split at h
    case h_2 => cases h
    rename_i i0 w0 d e0 xs0 R hHid hR
    split at h
    case h_2 => cases h
    rename_i L hL
    split at h
    case h_2 => cases h
    rename_i xv ids hg
    split at h
    case h_2 => cases h
    rename_i zs hzs
    obtain ⟨hnd, hK⟩ := cond_some h
    obtain ⟨k1, k2, k3, e1, xs1, k4, k5⟩ := rowAt_sound r hH hR
    have hid : σ.h id = ⟨i0, w0, .row d e0 xs0⟩ := by rw [← k1, hHid]
    rw [hid] at k4
    simp only [RC.row.injEq] at k4
    obtain ⟨rfl, rfl, hxs⟩ := k4
    have hxs := eq_of_heq hxs
    subst hxs
    obtain ⟨href, hptr⟩ := hx
    obtain ⟨e', b, ob, len, cap, n1, n2, n3, n4, n5⟩ := hptr R.d e0 xs0 (by rw [hid]) ⟨k2.symm, k3.imp (fun h => h) (fun h => ⟨h.1, h.2⟩)⟩
    rw [kindRow_of_get k5] at n1
    simp only [Option.some.injEq] at n1
    subst n1
    have hrow : Row g.Z w R.d e0 xs0 (g.loc id) (g.fp id) := by
      have hrr := r.rt id
      unfold RR at hrr
      rw [hid] at hrr
      exact hrr
    obtain ⟨f1, fm, f2, q1, q2, q3⟩ := RowOwn.focus (by rcases k3 with h | h; exact .inr h; exact .inl h.2) hrow n2 k5
    have hlen : len = R.xs.length := by
      obtain ⟨A, cap', hv, _⟩ := q2
      cases hv
      rfl
    subst hlen
    obtain ⟨b', o', cap', g1, gm, g2, um, hv', hfm, hown, hcap, hsz, hcl, hhas, hset⟩ := RowOwn.elem q2 n3 n4 hL
    cases hv'
    obtain ⟨arr, bty, hb, hsize⟩ := hown
    obtain ⟨hgath, hok, hclen⟩ := gathAll_some hg
    have hcells := hz.cells hok
    have hone := All2.one hok hcells
    have hcl2 := hcells.length
    have hnd' := nodB_iff.1 hnd
    rw [List.nodup_cons] at hnd'
    have hsame := gath_same r hH hgath
    have hi : i.toNat < R.xs.length := by omega
    have hmul : (i.toNat + 1) * R.e.size ≤ cap * R.e.size := Nat.mul_le_mul_right _ (by omega)
    rw [Nat.add_mul, Nat.one_mul] at hmul
    have hfit : ob + (i.toNat * R.e.size + off) + c'.size ≤ arr.size := by omega
    have run := exec_store (P := P) (w := w) (a := a) ho hty n5 hb rfl (by omega) hfit hone
    generalize hwn : w.setRow b (arr.toList.take (ob + (i.toNat * R.e.size + off)) ++ ((a.eval z).cells.toList ++ arr.toList.drop (ob + (i.toNat * R.e.size + off) + c'.size))).toArray = wn at run
    have hheap : wn.heap[b]? = some (.cells (arr.toList.take (ob + (i.toNat * R.e.size + off)) ++ ((a.eval z).cells.toList ++ arr.toList.drop (ob + (i.toNat * R.e.size + off) + c'.size))).toArray bty (0, 0)) := by
      rw [← hwn]; exact setRow_heap w b _ _ bty _ hb
    have hother : ∀ k, k ≠ b → wn.heap[k]? = w.heap[k]? := fun k hk => by rw [← hwn]; exact setRow_other w b k _ hk
    have hmem : b ∈ g.fp id := by rw [q1, hfm]; simp
    have hZk : ∀ k, g.Z k → wn.heap[k]? = w.heap[k]? := fun k hk => hother k (fun e => by subst e; exact (r.sp id k hmem).1 hk)
    have hnodup := r.nd id
    rw [q1, hfm] at hnodup
    have hout : ∀ j, j < ob + (i.toNat * R.e.size + off) ∨ ob + (i.toNat * R.e.size + off) + c'.size ≤ j → wn.cell? ⟨b, j, none⟩ = w.cell? ⟨b, j, none⟩ := by
      intro j hj
      rw [cell_of_row wn b j _ bty _ hheap, cell_of_row w b j _ bty _ hb]
      simp only [List.getElem?_toArray]
      have hal : arr.toList.length = arr.size := by simp
      rcases hj with hj | hj
      · rw [List.getElem?_append_left (by rw [List.length_take]; omega), List.getElem?_take, if_pos (by omega)]
        simp
      · rw [List.getElem?_append_right (by rw [List.length_take]; omega), List.getElem?_append_right (by rw [List.length_take]; omega), List.length_take, List.getElem?_drop]
        rw [show ob + (i.toNat * R.e.size + off) + c'.size + (j - min (ob + (i.toNat * R.e.size + off)) arr.toList.length - (a.eval z).cells.toList.length) = j by omega]
        simp
    have hin : CellsAt wn b (ob + (i.toNat * R.e.size + off)) (a.eval z).cells.toList := by
      intro j u hu
      have hj : j < (a.eval z).cells.toList.length := (List.getElem?_eq_some_iff.1 hu).1
      rw [cell_of_row wn b _ _ bty _ hheap]
      simp only [List.getElem?_toArray]
      have hal : arr.toList.length = arr.size := by simp
      rw [List.getElem?_append_right (by rw [List.length_take]; omega), List.length_take, List.getElem?_append_left (by omega), ← hu]
      congr 1
      omega
    have hown' : ∀ n, OwnB w b n → OwnB wn b n := by
      rintro n ⟨arr2, ty2, h1, h2⟩
      rw [hb] at h1
      cases h1
      refine ⟨_, bty, hheap, ?_⟩
      simp only [List.size_toArray, List.length_append, List.length_take, List.length_drop, Array.length_toList]
      simp only [Array.length_toList] at hcl2
      omega
    -- the two ways
    have fin : ∀ (Z' : Nat → Prop) (fm' : List Nat), (∀ b, g.Z b → Z' b) → (∀ b, Z' b → g.Z b ∨ ∃ id ∈ ids, b ∈ g.fp id) → Has Z' wn R.d c' xv (a.eval z).cells.toList fm' → (∀ k ∈ fm', ¬ Z' k ∧ ∃ id ∈ ids, k ∈ g.fp id) → fm'.Nodup → Goal P F σ a w g o K y := by
      intro Z' fm' hZZ hZT hhas' hfm' hndf
      have hne1 : ∀ k, k ∈ g1 ∨ k ∈ g2 → k ≠ b := by
        rintro k hk rfl
        simp only [List.nodup_append, List.nodup_cons, List.mem_append, not_or] at hnodup
        rcases hk with hk | hk
        · exact hnodup.2.1.1.1.1 hk
        · exact hnodup.2.1.1.1.2.2 hk
      have hne2 : ∀ k, k ∈ f1 ∨ k ∈ f2 → k ≠ b := by
        rintro k hk rfl
        simp only [List.nodup_append, List.mem_append, List.mem_cons] at hnodup
        rcases hk with hk | hk
        · exact hnodup.2.2 k hk k (by simp) rfl
        · exact hnodup.2.1.2.2 k (by simp) k hk rfl
      have hrow1 := hset Z' wn xv (a.eval z).cells.toList fm' hZk hZZ (fun k hk => hother k (hne1 k hk)) hown' hout hin hhas'
      obtain ⟨xs', hxs', hrow2⟩ := q3 Z' wn _ _ hZk hZZ (fun k hk => hother k (hne2 k hk)) hrow1
      rw [hxs'] at hzs
      simp only [Option.some.injEq] at hzs
      subst hzs
      have hgm : (b :: (g1 ++ (gm ++ g2))).Nodup := by
        have := (List.nodup_append.1 hnodup).2.1
        exact (List.nodup_append.1 this).1
      have hfmdis : ∀ k ∈ fm', k ∉ g.fp id := by
        intro k hk hk2
        obtain ⟨_, id2, h1, h2⟩ := hfm' k hk
        have := r.dj id id2 k hk2 h2
        subst this
        exact hnd'.1 h1
      have hsub : ∀ k, k ∈ f1 ++ ((b :: (g1 ++ (fm' ++ g2))) ++ f2) → k ∈ g.fp id ∨ k ∈ fm' := by
        intro k hk
        rw [q1, hfm]
        simp only [List.mem_append, List.mem_cons] at hk ⊢
        grind
      have hall : (f1 ++ ((b :: (g1 ++ (fm' ++ g2))) ++ f2)).Nodup := by
        have hold : (f1 ++ ((b :: (g1 ++ g2)) ++ f2)).Nodup := by
          refine hnodup.sublist ?_
          refine List.Sublist.append (List.Sublist.refl _) (List.Sublist.append (List.Sublist.cons_cons _ (List.Sublist.append (List.Sublist.refl _) (List.sublist_append_right _ _))) (List.Sublist.refl _))
        have hperm : (f1 ++ ((b :: (g1 ++ (fm' ++ g2))) ++ f2)).Perm (fm' ++ (f1 ++ ((b :: (g1 ++ g2)) ++ f2))) := by
          rw [List.perm_iff_count]
          intro k
          simp only [List.count_append, List.count_cons]
          omega
        rw [hperm.nodup_iff]
        refine List.nodup_append.2 ⟨hndf, hold, ?_⟩
        rintro k h1 k' h2 rfl
        refine hfmdis k h1 ?_
        rw [q1, hfm]
        simp only [List.mem_append, List.mem_cons] at h2 ⊢
        grind
      obtain ⟨g', r', hZ', x'⟩ := Rl.mod (H := H) (T := ids) (c := .row R.d e0 xs') (ver := w0 + 1) (fp := f1 ++ ((b :: (g1 ++ (fm' ++ g2))) ++ f2)) (w' := wn) (Z' := Z')
        r k1 hsame hnd'.1 (by rw [hid]; exact Nat.le_succ _) hZZ hZT (by rw [← hwn]; rfl) (by rw [← hwn]; rfl) (by rw [← hwn]; rfl) (by rw [← hwn]; simp) (fun k _ hk => hother k (fun e => hk (e ▸ hmem))) hall
        (fun k hk => by
          rcases hsub k hk with h | h
          · refine ⟨fun hz => ?_, .inl h⟩
            rcases hZT k hz with h' | ⟨id2, h1, h2⟩
            · exact (r.sp id k h).1 h'
            · have := r.dj id id2 k h h2
              subst this
              exact hnd'.1 h1
          · exact ⟨(hfm' k h).1, .inr (hfm' k h).2⟩)
        (by rw [hid]; exact ⟨fun d e xs h => (by cases h; exact ⟨xs0, rfl⟩), fun cs' h => (by cases h), fun k e xs h => (by cases h)⟩) (fun hv => by rw [hid] at hv; simp at hv)
        (fun h' g' hz' xx => by
          show Row g'.Z wn R.d e0 xs' (g.loc id) _
          rw [hz']
          exact hrow2)
      refine ⟨_, hK, OpPost.skip run ⟨g', ?_, trivial⟩⟩
      rw [k1, hid] at r'
      exact r'
    cases hd : R.d with
    | true =>
      rw [hd] at hgath
      simp only [cond_true] at hgath
      obtain ⟨u1, u2, e1, e2, e3⟩ := gath_deep r hH hgath hcells
      have hu2 : u2 = [] := by cases u2 with | nil => rfl | cons a l => exact e3.elim
      subst hu2
      rw [List.append_nil] at e1
      subst e1
      refine fin g.Z (ids.flatMap g.fp) (fun _ h => h) (fun _ h => .inl h) ?_ (fun k hk => ?_) (r.nodup_fps hnd'.2)
      · rw [hd]
        refine e2.frame hZk (fun _ h => h) (fun k hk => hother k ?_)
        obtain ⟨id2, h1, h2⟩ := List.mem_flatMap.1 hk
        rintro rfl
        have := r.dj id id2 k hmem h2
        subst this
        exact hnd'.1 h1
      · obtain ⟨id2, h1, h2⟩ := List.mem_flatMap.1 hk
        exact ⟨(r.sp id2 k h2).1, id2, h1, h2⟩
    | false =>
      rw [hd] at hgath
      simp only [cond_false] at hgath
      let Z' : Nat → Prop := fun b => g.Z b ∨ ∃ id ∈ ids, b ∈ g.fp id
      obtain ⟨u1, u2, e1, e2, e3⟩ := gath_shared (Z' := Z') r hH (fun _ h => .inl h) hgath hcells (fun id h b hb => .inr ⟨id, h, hb⟩)
      have hu2 : u2 = [] := by cases u2 with | nil => rfl | cons a l => exact e3.elim
      subst hu2
      rw [List.append_nil] at e1
      subst e1
      refine fin Z' [] (fun _ h => .inl h) (fun _ h => h) ?_ (by simp) (by simp)
      rw [hd]
      refine e2.frame (fun k hk => ?_) (fun _ h => h) (by simp)
      rcases hk with hk | ⟨id2, h1, h2⟩
      · exact hZk k hk
      · refine hother k ?_
        rintro rfl
        have := r.dj id id2 k hmem h2
        subst this
        exact hnd'.1 h1
  | _ => cases h
end
end VM
