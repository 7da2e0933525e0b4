/- Code. -/
import Derived.Test.YtljofbhokcdklaaVMz
import Derived.Scope
set_option linter.unusedVariables false
set_option linter.unusedSimpArgs false
namespace VM
open Go

def exOf : Ex → Exit
  | .normal => .normal
  | .exit i => .exit i
  | .ret => .ret

theorem RowAt.drew {w : World} : ∀ {p : Path} {e : CK} {v u : Value}, RowAt w e v p u → RowAt w.drew e v p u
  | [], _, _, _, h => h
  | (i, off) :: p, e, v, u, ⟨b, o, len, cap, u1, e1, h1, h2, h3, h4, h5, h6⟩ => ⟨b, o, len, cap, u1, e1, h1, h2, h3, h4, h5, h6.drew⟩

section
variable {P : Program} {F : Fx} {σ : St} {a : Act} {w : World} {g : Gh} {R : Type} {tt : List (Nat × TD)} {env : List Ct} {k : Nat} {o : Oper} {y : R} {ops : Array Oper}

theorem Rl.drew (r : Rl F σ a w g) : Rl F σ a w.drew g := by
  have x : Ext g w σ.h g w.drew σ.h := ⟨fun _ _ => rfl, fun _ h => h, fun id => .inr ⟨rfl, Nat.le_refl _, rfl, SameC.refl _, fun _ _ _ _ _ _ h => h.drew⟩⟩
  exact r.step x (fun id => (r.rt id).ext x fun _ _ => rfl) r.nd r.dj r.sp r.zl (fun b h => .inl h) rfl rfl rfl (Nat.le_refl _) (fun _ _ _ => rfl) (fun _ _ h => ⟨h, rfl⟩)

/-- What is asked of the code's end. -/
abbrev Ends (F : Fx) (K : Ex → St → Option R) (y : R) (Q : Exit → Act → World → Prop) : Prop := ∀ e σ' a' w' g', K e σ' = some y → Rl F σ' a' w' g' → Q (exOf e) a' w'

theorem region_sound (htt : TTok P tt) (henv : EnvOk P env) (hF : FOk F) (hmo : P.follows .mixedOrders = true) {id : Nat} {draw : Bool} {K : Ex → St → Option R} {Q : Exit → Act → World → Prop}
    (h : evOps tt env k F.B F.N ops ops.toList σ [] (fun σ' rs => bif draw then grd (aftersOk 0 ops.toList && calmAll (Region.before ops).toList rs) (K .normal σ') else K .normal σ') = some y)
    (r : Rl F σ a w g) (hQ : Ends F K y Q) : (Code.region id ops draw).wp P Q a w := by
  obtain ⟨l, σ', hc, h⟩ := evOps_some h
  rw [List.append_nil] at h
  cases draw with
  | false =>
    refine wp_region ?_
    have := hc.text (Q := Q) htt henv hF (i := 0) (by simp) r (fun a' w' g' r' => hQ .normal σ' a' w' g' h r')
    rwa [Array.length_toList, ← List.range_eq_range'] at this
  | true =>
    simp only [cond_true] at h
    obtain ⟨hck, h⟩ := grd_some h
    rw [Bool.and_eq_true] at hck
    refine wp_region_any hmo ?_
    obtain ⟨L, h1, h2, h3, h4⟩ := hc.rows 0
    have haft : ∀ (j : Nat) (o : Oper), ops[j]? = some o → ∀ e ∈ o.after, Region.binds .any e = true → e.on < j := by
      intro j o hj e he hb
      have := aftersOk_spec hck.1 j o (by simpa using hj) e he hb
      omega
    have hlen : L.length = ops.size := by have := congrArg List.length h1; simpa using this
    have hall : foldS (fun _ => true) 0 L σ = σ' := h3
    refine Chain.any htt henv hF h1 h4 ?_ haft (fun a' w' g' r' => hQ .normal σ' a' w' g' h (by rw [← hall]; exact r')) ops.size (Array.replicate ops.size false) (by simp) ?_ ?_ a w.drew g ?_
    · intro i j x z hij hx hz
      refine calmAll_spec hck.2 i j x.2.2 z.2.2 hij ?_ ?_
      · rw [List.reverse_reverse, List.getElem?_map, ← h2, List.getElem?_map, hx]; rfl
      · rw [List.reverse_reverse, List.getElem?_map, ← h2, List.getElem?_map, hz]; rfl
    · exact Nat.le_trans List.countP_le_length (by simp)
    · intro j o hj hl
      have : j < ops.size := (Array.getElem?_eq_some_iff.1 hj).1
      simp [this] at hl
    · have : foldS (fun i => (Array.replicate ops.size false).getD i true) 0 L σ = σ := by
        refine (foldS_congr (S' := fun _ => false) L 0 σ fun j hj => ?_).trans (foldS_false _ _ _ (fun _ => rfl))
        have : 0 + j < ops.size := by omega
        simp at this
        simp [this]
      rw [this]
      exact r.drew

theorem least {p : Nat → Prop} (h : ∃ n, p n) : ∃ n, p n ∧ ∀ m, p m → n ≤ m := by
  obtain ⟨n, hn⟩ := h
  induction n using Nat.strongRecOn with
  | ind n ih =>
    by_cases hm : ∃ m, m < n ∧ p m
    · obtain ⟨m, h1, h2⟩ := hm
      exact ih m h1 h2
    · refine ⟨n, hn, fun m hp => ?_⟩
      rcases Nat.lt_or_ge m n with h | h
      · exact absurd ⟨m, h, hp⟩ hm
      · exact h

theorem ev_sound' (htt : TTok P tt) (henv : EnvOk P env) (hF : FOk F) (hmo : P.follows .mixedOrders = true) : ∀ (c : Code) {h : HT} {σ : St} {K : Ex → St → Option R}, ev tt env k F.B F.N h c σ K = some y →
    ∀ {a : Act} {w : World} {g : Gh}, Rl F σ a w g → ∀ {Q : Exit → Act → World → Prop}, Ends F K y Q → c.wp P Q a w := by
  intro c
  induction c with
  | skip =>
    intro h σ K he a w g r Q hQ
    have he : K .normal σ = some y := by cases h <;> exact he
    exact wp_skip (hQ .normal σ a w g he r)
  | region id ops draw =>
    intro h σ K he a w g r Q hQ
    exact region_sound htt henv hF hmo (by cases h <;> exact he) r hQ
  | seq x z ihx ihz =>
    intro h σ K he a w g r Q hQ
    refine wp_seq ?_
    have plain : ∀ {ha hb : HT}, ev tt env k F.B F.N ha x σ (fun e σ' => match e with | .normal => ev tt env k F.B F.N hb z σ' K | .exit i => K (.exit i) σ' | .ret => K .ret σ') = some y → x.wp P (Exit.then (z.wp P Q) Q) a w := by
      intro ha hb he
      refine ihx he r ?_
      intro e σ' a' w' g' hk r'
      cases e with
      | normal => exact ihz hk r' hQ
      | exit i => exact hQ (.exit i) σ' a' w' g' hk r'
      | ret => exact hQ .ret σ' a' w' g' hk r'
    cases h with
    | j sp ha hb =>
      have he : ev tt env k F.B F.N ha x σ (fun e σ' => match e with | .normal => pack sp σ' (fun d => ev tt env k F.B F.N hb z (unL F.B sp d) K) | .exit i => K (.exit i) σ' | .ret => K .ret σ') = some y := he
      refine ihx he r ?_
      intro e σ' a' w' g' hk r'
      cases e with
      | normal =>
        obtain ⟨d, g2, h1, h2⟩ := pack_sound hF hk r'
        exact ihz h1 h2 hQ
      | exit i => exact hQ (.exit i) σ' a' w' g' hk r'
      | ret => exact hQ .ret σ' a' w' g' hk r'
    | n ha hb => exact plain (ha := ha) (hb := hb) he
    | leaf => exact plain (ha := .leaf) (hb := .leaf) he
    | l sp ha => exact plain (ha := .leaf) (hb := .leaf) he
  | cond c x z ihx ihz =>
    intro h σ K he a w g r Q hQ
    have hc := ev_sound r c
    obtain ⟨ha, hb, he⟩ : ∃ ha hb, (match σ.ev c with | .one (.bool b) => sel b (ev tt env k F.B F.N ha x σ K) (ev tt env k F.B F.N hb z σ K) | _ => none) = some y := by
      cases h <;> exact ⟨_, _, he⟩
    split at he
    · rename_i b hb'
      rw [hb'] at hc
      have hc : a.eval c = .bool b := hc
      rcases sel_some he with ⟨rfl, he⟩ | ⟨rfl, he⟩
      · exact wp_cond_true hc (ihx he r hQ)
      · exact wp_cond_false hc (ihz he r hQ)
    · cases he
  | block id c ih =>
    intro h σ K he a w g r Q hQ
    have he : ev tt env k F.B F.N h c σ (fun e σ' => match e with | .exit i => bif Nat.beq i id then K .normal σ' else K (.exit i) σ' | .normal => K .normal σ' | .ret => K .ret σ') = some y := by cases h <;> exact he
    refine wp_block (ih he r ?_)
    intro e σ' a' w' g' hk r'
    cases e with
    | normal => exact hQ .normal σ' a' w' g' hk r'
    | ret => exact hQ .ret σ' a' w' g' hk r'
    | exit i =>
      simp only at hk
      show (if i = id then Q .normal a' w' else Q (.exit i) a' w')
      cases hb : Nat.beq i id with
      | true =>
        rw [hb] at hk
        rw [if_pos (Nat.eq_of_beq_eq_true hb)]
        exact hQ .normal σ' a' w' g' hk r'
      | false =>
        rw [hb] at hk
        rw [if_neg (fun e => by subst e; simp at hb)]
        exact hQ (.exit i) σ' a' w' g' hk r'
  | loop c ih =>
    intro h σ K he a w g r Q hQ
    cases h with
    | l sp hc =>
      let s : ((spK sp).den → Option R) → (spK sp).den → Option R := fun ih d => ev tt env k F.B F.N hc c (unL F.B sp d) fun e σ' =>
        match e with | .normal => pack sp σ' ih | .exit i => K (.exit i) σ' | .ret => K .ret σ'
      have he : pack sp σ (fun d0 => iter s k d0) = some y := he
      obtain ⟨d0, g0, h1, h2⟩ := pack_sound hF he r
      let I : Act → World → Prop := fun a w => ∃ n d g, iter s n d = some y ∧ Rl F (unL F.B sp d) a w g
      classical
      let μ : Act → World → Nat := fun a w => if h : I a w then Classical.choose (least h) else 0
      refine wp_loop I μ ⟨k, d0, g0, h1, h2⟩ ?_
      intro a w hI
      obtain ⟨⟨d, g, h3, h4⟩, _⟩ := Classical.choose_spec (least hI)
      have hμ : μ a w = Classical.choose (least hI) := dif_pos hI
      cases hn : Classical.choose (least hI) with
      | zero => rw [hn] at h3; cases h3
      | succ m =>
        rw [hn] at h3
        have h3 : s (iter s m) d = some y := h3
        refine ih h3 h4 ?_
        intro e σ' a' w' g' hk r'
        cases e with
        | normal =>
          obtain ⟨d', g2, h5, h6⟩ := pack_sound hF hk r'
          have hI' : I a' w' := ⟨m, d', g2, h5, h6⟩
          refine ⟨hI', ?_⟩
          rw [hμ, hn, show μ a' w' = Classical.choose (least hI') from dif_pos hI']
          exact Nat.lt_succ_of_le ((Classical.choose_spec (least hI')).2 m ⟨d', g2, h5, h6⟩)
        | exit i => exact hQ (.exit i) σ' a' w' g' hk r'
        | ret => exact hQ .ret σ' a' w' g' hk r'
    | leaf => cases he
    | n _ _ => cases he
    | j _ _ _ => cases he
  | scope c ih =>
    intro h σ K he a w g r Q hQ
    have he : ev tt env k F.B F.N h c σ K = some y := by cases h <;> exact he
    refine wp_scope_straight (ih he r ?_)
    intro e σ' a' w' g' hk r'
    have := hQ e σ' a' w' g' hk r'
    cases e <;> exact this
  | exit id =>
    intro h σ K he a w g r Q hQ
    have he : K (.exit id) σ = some y := by cases h <;> exact he
    exact wp_exit (hQ (.exit id) σ a w g he r)
  | ret =>
    intro h σ K he a w g r Q hQ
    have he : K .ret σ = some y := by cases h <;> exact he
    exact wp_ret (hQ .ret σ a w g he r)
  | rangeFunc f ps x z _ _ => intro h σ K he; cases h <;> cases he
  | label l => intro h σ K he; cases h <;> cases he
  | goto l => intro h σ K he; cases h <;> cases he
  | refuse s => intro h σ K he; cases h <;> cases he
end
end VM
