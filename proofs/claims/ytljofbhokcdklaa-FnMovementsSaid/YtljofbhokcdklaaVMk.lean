/- Values out of parts. -/
import Derived.Test.YtljofbhokcdklaaVMj
set_option linter.unusedVariables false
set_option linter.unusedSimpArgs false
namespace VM
open Go

theorem foldl_sets (off : Nat) : ∀ (vs : List Value) (j : Nat) (cs : Array Value), off + j + vs.length ≤ cs.size →
    (vs.zipIdx j).foldl (fun cs x => cs.setIfInBounds (off + x.2) x.1) cs = (cs.toList.take (off + j) ++ (vs ++ cs.toList.drop (off + j + vs.length))).toArray
  | [], j, cs, h => by simp
  | v :: vs, j, cs, h => by
    simp only [List.length_cons] at h
    rw [List.zipIdx_cons, List.foldl_cons, foldl_sets off vs (j + 1) _ (by simp; omega)]
    congr 1
    simp only [Array.toList_setIfInBounds]
    apply List.ext_getElem?
    intro k
    have hl : cs.toList.length = cs.size := by simp
    simp only [List.getElem?_append, List.length_take, List.length_set, hl, List.length_cons, List.getElem?_take, List.getElem?_drop, List.getElem?_set]
    have e1 : min (off + (j + 1)) cs.size = off + j + 1 := by omega
    have e2 : min (off + j) cs.size = off + j := by omega
    rw [e1, e2]
    by_cases h1 : k < off + j
    · rw [if_pos (by omega), if_pos (by omega), if_pos h1, if_pos h1, if_neg (by omega)]
    · by_cases h2 : k = off + j
      · subst h2
        rw [if_pos (by omega), if_pos (by omega), if_pos rfl, if_pos (by omega), if_neg (by omega), if_pos (by omega)]
        simp
      · rw [if_neg (by omega), if_neg h1]
        by_cases h3 : k - (off + j) < vs.length + 1
        · rw [if_pos (by omega), if_pos h3]
          rw [show k - (off + j) = (k - (off + j + 1)) + 1 by omega, List.getElem?_cons_succ]
        · rw [if_neg (by omega), if_neg h3, if_neg (by omega)]
          congr 1
          omega

theorem fill_cons {place : Nat → Option (Nat × Nat)} {us : List Value} {i off size : Nat} {v : Value} {rest : List (Nat × Value)} (hp : place i = some (off, size)) (hs : v.cells.size = size) (hb : off + size ≤ us.length) :
    Instr.fill place us.toArray ((i, v) :: rest) = Instr.fill place (us.take off ++ (v.cells.toList ++ us.drop (off + size))).toArray rest := by
  simp only [Instr.fill, hp]
  rw [if_neg (by simp; omega)]
  congr 1
  rw [← Array.foldl_toList, Array.toList_zipIdx]
  have := foldl_sets off v.cells.toList 0 us.toArray (by simp; omega)
  simp only [Nat.add_zero, Array.length_toList, hs] at this
  exact this

theorem All2.patch {g : Gh} {w : World} {h : Nat → RE} {cs vs : List CV} {us ws : List Value} (off n : Nat) (h1 : All2 (CVr g w h) cs us) (h2 : All2 (CVr g w h) vs ws) (hn : vs.length = n) :
    All2 (CVr g w h) (patch cs off vs) (us.take off ++ (ws ++ us.drop (off + n))) := by
  unfold VM.patch
  rw [hn]
  exact (h1.take off).append (h2.append (h1.drop _))

theorem buildC_sound {g : Gh} {w : World} {h : Nat → RE} {fs : List (Nat × CK)} {place : Nat → Option (Nat × Nat)} {n : Nat} (hp : ∀ (i off : Nat) (d : CK), fs[i]? = some (off, d) → place i = some (off, d.size) ∧ off + d.size ≤ n) :
    ∀ {ps : List (Nat × SV)} {qs : List (Nat × Value)} {cs cs' : List CV} {us : List Value}, All2 (fun p q => p.1 = q.1 ∧ SVr g w h p.2 q.2) ps qs → All2 (CVr g w h) cs us → us.length = n → buildC fs ps cs = some cs' →
      ∃ us', Instr.fill place us.toArray qs = some us'.toArray ∧ All2 (CVr g w h) cs' us'
  | [], [], cs, cs', us, _, hc, hn, hb => by
    simp only [buildC, Option.some.injEq] at hb
    subst hb
    exact ⟨us, rfl, hc⟩
  | (i, v) :: ps, (j, u) :: qs, cs, cs', us, ⟨⟨hij, hv⟩, ht⟩, hc, hn, hb => by
    simp only at hij
    subst hij
    simp only [buildC] at hb
    split at hb
    · rename_i off d hf
      obtain ⟨hb1, hb⟩ := cond_some hb
      rw [Bool.and_eq_true] at hb1
      obtain ⟨hok, hl⟩ := hb1
      have hl := Nat.eq_of_beq_eq_true hl
      obtain ⟨p1, p2⟩ := hp i off d hf
      have hcs := hv.cells hok
      have hlu : u.cells.size = d.size := by rw [← hl, hcs.length]; simp
      have hlc := hc.length
      rw [fill_cons p1 hlu (by omega)]
      refine buildC_sound hp ht (hc.patch off d.size hcs hl) ?_ hb
      simp only [List.length_append, List.length_take, List.length_drop, Array.length_toList, hlu]
      omega
    · cases hb
  | [], _ :: _, _, _, _, h, _, _, _ => h.elim
  | _ :: _, [], _, _, _, h, _, _, _ => h.elim

section
variable {P : Program} {F : Fx} {σ : St} {a : Act} {w : World} {g : Gh} {R : Type} {tt : List (Nat × TD)} {env : List Ct} {k : Nat} {o : Oper} {H : Nat → RE} {K : Upd → Option R} {y : R}

theorem parts_sound (r : Rl F σ a w g) : ∀ ps : List (Nat × Operand), All2 (fun p q => p.1 = q.1 ∧ SVr g w σ.h p.2 q.2) ((ps.map (·.1)).zip ((ps.map (·.2)).map σ.ev)) (ps.map fun x => (x.1, a.eval x.2))
  | [] => trivial
  | (i, x) :: ps => ⟨⟨rfl, ev_sound r x⟩, parts_sound r ps⟩

theorem mapM_some {α β : Type} {f : α → Option β} {l : List α} {m : List β} (hl : l.length = m.length) (h : ∀ (i : Nat) (x : α), l[i]? = some x → ∃ y, m[i]? = some y ∧ f x = some y) : l.mapM f = some m := by
  induction l generalizing m with
  | nil =>
    cases m with
    | nil => rfl
    | cons => simp at hl
  | cons x l ih =>
    cases m with
    | nil => simp at hl
    | cons y m =>
      obtain ⟨y', h1, h2⟩ := h 0 x rfl
      simp at h1
      subst h1
      rw [List.mapM_cons, h2, ih (by simpa using hl) (fun i x hx => by simpa using h (i + 1) x (by simpa using hx))]
      rfl

theorem act_build (htt : TTok P tt) (r : Rl F σ a w g) {t : TypeId} {ps : Array (Nat × Operand)} (ho : o.op = .build t ps) (h : act tt env k o (o.op.operands.toList.map σ.ev) H K = some y) : Goal P F σ a w g o K y := by
  unfold act at h
  rw [ho] at h
  simp only [Op.operands] at h
  split at h
  · rename_i c bs fs hl
    obtain ⟨hagg, h⟩ := cond_some h
    split at h
    · rename_i cs hb
      obtain ⟨i, d, h1, h2, h3, h4, h5⟩ := (htt.is t c bs fs hl).ex
      obtain ⟨Fs, hu, hsz, hfs⟩ := htt.agg t c bs fs hl hagg
      let places : List (Nat × Nat) := fs.map fun x => (x.1, x.2.size)
      have hm : Fs.toList.mapM (fun f => (P.info? f.type).map fun i => (f.offset, i.size)) = some places := by
        refine mapM_some (by simp [places, hsz]) fun j x hx => ?_
        have hx' : Fs[j]? = some x := by simpa using hx
        obtain ⟨off, d, k1, k2, k3, k4⟩ := hfs j x hx'
        obtain ⟨i', d', m1, m2, m3, _⟩ := k3.ex
        exact ⟨(off, d.size), by simp [places, k1], by rw [m1]; simp [k2, m3]⟩
      have hps := parts_sound r ps.toList
      have hl0 : c.zero.length = c.size := (Has.zero (fun _ => False) w false c).len
      obtain ⟨us, hf, hus⟩ := buildC_sound (place := (places.toArray[·]?)) (n := c.size) (fun j off d hj => by
          refine ⟨by simp [places, hj], ?_⟩
          have hlt : j < Fs.size := by rw [hsz]; exact (List.getElem?_eq_some_iff.1 hj).1
          obtain ⟨off', d', k1, k2, k3, k4⟩ := hfs j Fs[j] (by simp [hlt])
          rw [hj] at k1
          cases k1
          exact k4) hps (zero_vals g w σ.h c) hl0 hb
      refine goal_pure r h (x := .agg us.toArray) ?_ ⟨us, rfl, hus⟩
      unfold execOp
      rw [ho]
      have hbu : P.built t (ps.map fun (i, x) => (i, a.eval x)).toList = some us.toArray := by
        unfold Program.built
        rw [h1, hu]
        simp only [h4, hm, cells_zeroV]
        rw [Array.toList_map]
        exact hf
      simp only [Sem.run_bind, run_build w t _ _ hbu, Result.andThen_ok, Sem.run_pure]
    · cases h
  · cases h
end
end VM
