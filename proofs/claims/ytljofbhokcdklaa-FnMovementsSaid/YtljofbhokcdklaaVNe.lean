/- The contract of a function. -/
import Derived.Test.YtljofbhokcdklaaVNd
set_option linter.unusedVariables false
set_option linter.unusedSimpArgs false
namespace VM
open Go

section
variable {P : Program} {F : Fx} {σ : St} {a : Act} {w : World} {g : Gh} {R : Type} {tt : List (Nat × TD)} {env : List Ct} {k : Nat} {o : Oper} {y : R}

theorem ressOut_ne {H : Nat → RE} : ∀ {rs : List (RM × CK)} {vs : List SV} {x : (resK rs).den} {T B : List Nat}, ressOut H rs vs = some (x, T, B) → ∀ v ∈ vs, v ≠ .one .undef
  | [], [], x, T, B, h => by simp
  | [], _ :: _, x, T, B, h => by cases h
  | (.imm, c) :: rs, [], x, T, B, h => by cases h
  | (.own d, c) :: rs, [], x, T, B, h => by cases h
  | (.pts, c) :: rs, [], x, T, B, h => by cases h
  | (.pts, c) :: rs, v :: vs, x, T, B, h => by
    have h' : (match (generalizing := false) v with
      | .one (.vptr id inc 0) => match varAt H id inc with
        | some cs => match gathAll H .shr c cs with
          | some (x, []) => match ressOut H rs vs with
            | some (y, T, B) => some ((x, y), id :: T, B)
            | none => none
          | _ => none
        | none => none
      | _ => none) = some ((x : c.den × (resK rs).den), T, B) := h
    clear h
    split at h'
    case h_2 => cases h'
    split at h'
    case h_2 => cases h'
    split at h'
    case h_2 => cases h'
    split at h'
    case h_2 => cases h'
    rename_i x2 T2 B2 hr
    intro z hz
    rcases List.mem_cons.1 hz with rfl | hz
    · intro e; cases e
    · exact ressOut_ne hr z hz
  | (.imm, c) :: rs, v :: vs, x, T, B, h => by
    have h' : (match gathV H .bor c v with
      | some (x, ids) => match ressOut H rs vs with
        | some (y, T, B) => some ((x, y), T, ids ++ B)
        | none => none
      | none => none) = some ((x : c.den × (resK rs).den), T, B) := h
    clear h
    split at h'
    case h_2 => cases h'
    rename_i x1 ids hg
    split at h'
    case h_2 => cases h'
    rename_i x2 T2 B2 hr
    intro z hz
    rcases List.mem_cons.1 hz with rfl | hz
    · rintro rfl
      have := (gathV_some hg).2.2.1
      simp [SV.cells, okCs] at this
    · exact ressOut_ne hr z hz
  | (.own d, c) :: rs, v :: vs, x, T, B, h => by
    have h' : (match outV H d c v with
      | some (x, ids) => match ressOut H rs vs with
        | some (y, T, B) => some ((x, y), ids ++ T, B)
        | none => none
      | none => none) = some ((x : c.den × (resK rs).den), T, B) := h
    clear h
    split at h'
    case h_2 => cases h'
    rename_i x1 ids hg
    split at h'
    case h_2 => cases h'
    rename_i x2 T2 B2 hr
    intro z hz
    rcases List.mem_cons.1 hz with rfl | hz
    · rintro rfl
      unfold outV at hg
      obtain ⟨hck, _⟩ := cond_some hg
      simp [SV.cells, okCs] at hck
    · exact ressOut_ne hr z hz

def rvRun (tmps : Array Value) (rv : ResultVar) : Sem Value := match rv with | .tmp t => pure (tmps.getD t undef) | .cell c t => do loadVar t (← asAddr (tmps.getD c undef))

theorem run_rvs (htt : TTok P tt) (r : Rl F σ a w g) : ∀ {rvs : List ResultVar}, (∀ v ∈ rvs.map (resSV tt σ), v ≠ .one .undef) →
    ∃ us, (rvs.mapM (rvRun a.tmps)).run P w = .ok us w ∧ All2 (SVr g w σ.h) (rvs.map (resSV tt σ)) us
  | [], _ => ⟨[], rfl, trivial⟩
  | rv :: rvs, h => by
    obtain ⟨u, h1, h2⟩ := resSV_sound htt r rv (.inl (h _ (by simp)))
    obtain ⟨us, h3, h4⟩ := run_rvs htt r (rvs := rvs) (fun v hv => h v (by simp only [List.map_cons, List.mem_cons]; exact .inr hv))
    have h1 : (rvRun a.tmps rv).run P w = .ok u w := h1
    exact ⟨u :: us, by simp [List.mapM_cons, h1, h3], h2, h4⟩

theorem run_results (htt : TTok P tt) (r : Rl F σ a w g) {fn : Func} (h : ∀ v ∈ fn.results.toList.map (resSV tt σ), v ≠ .one .undef) :
    ∃ us, (results fn a.tmps).run P w = .ok (retVal us) w ∧ All2 (SVr g w σ.h) (fn.results.toList.map (resSV tt σ)) us := by
  obtain ⟨us, h1, h2⟩ := run_rvs htt r h
  refine ⟨us, ?_, h2⟩
  have hm : (fn.results.mapM (rvRun a.tmps)).run P w = .ok us.toArray w := by
    rw [Array.mapM_eq_mapM_toList]
    simp [h1]
  have hres : results fn a.tmps = (do let vs ← fn.results.mapM (rvRun a.tmps); pure (if h : vs.size = 1 then vs[0] else .tuple vs)) := by
    unfold results
    congr 1
  rw [hres]
  simp only [Sem.run_bind, hm, Result.andThen_ok, Sem.run_pure]
  congr 1
  match us with
  | [] => rfl
  | [u] => rfl
  | u :: v :: us =>
    rw [dif_neg (by simp)]
    rfl

theorem evFn_sound {f : FuncId} {fn : Func} {c : Code} (hf : P.funcs[f]? = some fn) (hname : (fn.name == "runtime.NumGoroutine") = false) (hb : fn.body = some c) (htt : TTok P tt) (henv : EnvOk P env) (hmo : P.follows .mixedOrders = true)
    {cs : List Nat} {h : HT} {sg : Sg} {run : Nat → sg.In → Option sg.Out} (hrun : ∀ k x y, run k x = some y → evFn tt env k fn cs h sg x = some y) : SoundC P ⟨f, sg, run⟩ := by
  constructor
  · intro args w
    have h1 : fn.name ≠ "runtime.NumGoroutine" := by simpa using hname
    simp [callFunc, hf, h1, hb]
  intro k x y hr Z w us fp hin hfpn hfp hZl
  have he := hrun k x y hr
  unfold evFn at he
  rw [hb] at he
  dsimp only at he
  obtain ⟨hck, he⟩ := cond_some he
  simp only [Bool.and_eq_true, Nat.ble_eq] at hck
  obtain ⟨⟨hnd, hown⟩, hN, hlen⟩ := hck
  obtain ⟨L, l1, l2, l3, l4, l5, l6, l7, l8⟩ := inSt_sound (i := 0) hin
  have l5 : us.length = sg.ps.length := l5
  have hids : (L.map (·.id)).Nodup := by
    have := nodB_iff.1 hnd
    rw [l1, List.map_map] at this
    exact this
  let σ0 := inSt sg.ps 0 x
  let F : Fx := ⟨fun b => b ∈ fp ∨ w.heap.size ≤ b, (L.filter fun q => decide (3000000 ≤ q.id)).map fun q => (q.id, q.loc), w, Z, ⟨fun i => bif memB cs i then σ0.s i else .one .undef, fun _ => ⟨2, 0, .none⟩⟩, fn.ntmps⟩
  have hP0 : ∀ q ∈ L, 3000000 ≤ q.id → (q.id, q.loc) ∈ F.P0 := fun q hq hl => List.mem_map.2 ⟨q, List.mem_filter.2 ⟨hq, by simpa using hl⟩, rfl⟩
  have hP0' : ∀ p ∈ F.P0, ∃ q ∈ L, 3000000 ≤ q.id ∧ p = (q.id, q.loc) := by
    intro p hp
    obtain ⟨q, h1, h2⟩ := List.mem_map.1 hp
    obtain ⟨h3, h4⟩ := List.mem_filter.1 h1
    exact ⟨q, h3, by simpa using h4, h2.symm⟩
  obtain ⟨l8a, l8b⟩ := l8 F hP0
  have hF : FOk F := ⟨rfl, fun p hp => by obtain ⟨q, _, h2, rfl⟩ := hP0' p hp; exact h2, hN⟩
  let g0 : Gh := ⟨Z, fun id => match claimAt L id with | some q => q.loc | none => undef, fun id => match claimAt L id with | some q => q.fp | none => []⟩
  have hh : ∀ id, σ0.h id = match claimAt L id with | some q => q.re | none => RE0 := by
    intro id
    show (inSt sg.ps 0 x).h id = _
    rw [l2, l1, setH_claims]
    cases claimAt L id <;> rfl
  have hagr : Agr g0 σ0.h L := by
    intro q hq'
    have := claimAt_mem hids q hq'
    refine ⟨by rw [hh, this], ?_, ?_⟩
    · show (match claimAt L q.id with | some q => q.loc | none => undef) = _
      rw [this]
    · show (match claimAt L q.id with | some q => q.fp | none => []) = _
      rw [this]
  obtain ⟨hrr, hslots⟩ := l7 g0 σ0.h rfl hagr
  have hgfp : ∀ id b, b ∈ g0.fp id → ∃ q ∈ L, q.id = id ∧ b ∈ q.fp := by
    intro id b hb
    have hb : b ∈ (match claimAt L id with | some q => q.fp | none => []) := hb
    split at hb
    · rename_i q hc
      exact ⟨q, (claimAt_some hc).1, (claimAt_some hc).2, hb⟩
    · simp at hb
  have hLnd : (L.flatMap (·.fp)).Nodup := by rw [l3]; exact hfpn
  have hfpm : ∀ id b, b ∈ g0.fp id → b ∈ fp := by
    intro id b hb
    obtain ⟨q, h1, h2, h3⟩ := hgfp id b hb
    rw [← l3]
    exact List.mem_flatMap.2 ⟨q, h1, h3⟩
  let a0 : Act := { tmps := us.toArray ++ Array.replicate (fn.ntmps - us.toArray.size) undef, defers := [] }
  have htmp : ∀ i, a0.tmps.getD i undef = us.getD i undef := by
    intro i
    show (us.toArray ++ Array.replicate (fn.ntmps - us.toArray.size) undef).getD i undef = _
    by_cases hi : i < us.length
    · simp [hi, Array.getElem?_append, List.getD_eq_getElem?_getD]
    · rw [List.getD_eq_getElem?_getD, List.getElem?_eq_none (by omega)]
      simp only [Array.getD_eq_getD_getElem?, Array.getElem?_append, List.size_toArray, if_neg hi, Option.getD_none]
      rw [Array.getElem?_replicate]
      split <;> rfl
  have r0 : Rl F σ0 a0 w g0 := by
    constructor
    case sl =>
      intro i
      rw [htmp]
      have := hslots i (Nat.zero_le _)
      rwa [Nat.sub_zero] at this
    case bs =>
      intro i
      rw [htmp]
      show BSr F g0 w (bif memB cs i then σ0.s i else .one .undef) _
      cases hm : memB cs i with
      | false => trivial
      | true =>
        have := l8a g0 rfl cs hown i (Nat.zero_le _) (memB_iff.1 hm)
        rwa [Nat.sub_zero] at this
    case rt =>
      intro id
      cases hc : claimAt L id with
      | some q =>
        obtain ⟨h1, rfl⟩ := claimAt_some hc
        obtain ⟨a1, a2, a3⟩ := hagr q h1
        rw [a1, a2, a3]
        exact hrr q h1
      | none =>
        rw [hh id, hc]
        show (match claimAt L id with | some q => q.fp | none => []) = []
        rw [hc]
    case nd =>
      intro id
      show (match claimAt L id with | some q => q.fp | none => []).Nodup
      split
      · rename_i q hc
        exact hLnd.sublist (List.sublist_flatten_of_mem (List.mem_map.2 ⟨q, (claimAt_some hc).1, rfl⟩))
      · exact List.nodup_nil
    case dj =>
      intro id id' b h1 h2
      obtain ⟨p, p1, p2, p3⟩ := hgfp id b h1
      obtain ⟨q, q1, q2, q3⟩ := hgfp id' b h2
      rw [← p2, ← q2]
      exact mem_flatMap_nodup hLnd hids p1 q1 p3 q3
    case sp => exact fun id b hb => ⟨(hfp b (hfpm id b hb)).1, .inl (hfpm id b hb)⟩
    case zl => exact hZl
    case z0 => exact fun b hb => hb
    case zu => exact fun b hb => .inl hb
    case uf => exact fun b hb => .inr hb
    case os => rfl
    case tp => rfl
    case ou => rfl
    case sz => exact Nat.le_refl _
    case fr => exact fun _ _ _ => rfl
    case pl =>
      intro p hp _
      obtain ⟨q, h1, h2, rfl⟩ := hP0' p hp
      exact (hagr q h1).2.1
    case p1 =>
      intro p hp
      obtain ⟨q, h1, h2, rfl⟩ := hP0' p hp
      show 1 ≤ (σ0.h q.id).inc
      rw [(hagr q h1).1, l4 q h1]
      exact Nat.le_refl _
    case df => rfl
    case ts =>
      show (us.toArray ++ Array.replicate (fn.ntmps - us.toArray.size) undef).size = fn.ntmps
      simp
      omega
  refine calls_of_wp hf hb (ev_sound' htt henv hF hmo c he r0 ?_)
  intro e σ' a' w' g' hk r'
  have fin : (match ressOut σ'.h sg.rs (fn.results.toList.map (resSV tt σ')) with
        | some (r, T, B) => match mutsOut (inSt sg.ps 0 x) σ'.h sg.ps 0 with
          | some (m, U) => bif nodB (U ++ T) && disB (U ++ T) B then some (r, m) else none
          | none => none
        | none => none) = some y → a'.defers = [] ∧ ∃ v, (results fn a'.tmps).run P w' = .ok v w' ∧ ∃ vs, Ending.returned v = .returned (retVal vs) ∧ ∃ Z' fm fr, CallPost Z w fp sg us y w' vs Z' fm fr := by
    intro hk
    refine ⟨r'.df, ?_⟩
    split at hk
    case h_2 => cases hk
    rename_i rr T B hres
    split at hk
    case h_2 => cases hk
    rename_i m U hmo'
    obtain ⟨hck, hk⟩ := cond_some hk
    rw [Bool.and_eq_true] at hck
    simp only [Option.some.injEq] at hk
    subst hk
    have hUT := nodB_iff.1 hck.1
    have hdis : ∀ id ∈ U ++ T, id ∉ B := disB_mem hck.2
    obtain ⟨vs, hv1, hv2⟩ := run_results htt r' (fn := fn) (ressOut_ne hres)
    refine ⟨retVal vs, hv1, vs, rfl, ?_⟩
    obtain ⟨M, hM⟩ := ressOut_sound r' hres (List.nodup_append.1 hUT).2.1 hv2
    have hmuts := l8b (B := inSt sg.ps 0 x) (fun _ _ => rfl) r' hmo' (List.nodup_append.1 hUT).1
    let Z' : Nat → Prop := fun b => g'.Z b ∨ ((∃ id ∈ T ++ B, b ∈ g'.fp id) ∧ b ∉ M)
    have hUTd : ∀ id ∈ U, id ∉ T := fun id h1 h2 => (List.nodup_append.1 hUT).2.2 id h1 id h2 rfl
    have hTB : ∀ id ∈ B, ∀ b ∈ g'.fp id, Z' b := by
      intro id hid b hb
      refine .inr ⟨⟨id, by simp [hid], hb⟩, fun hm => ?_⟩
      obtain ⟨id2, h1, h2⟩ := hM.sub b hm
      have := r'.dj id id2 b hb h2
      subst this
      exact hdis id (by simp [h1]) hid
    have hress := hM.good Z' (fun b h => .inl h) (fun id h1 b h2 h3 => .inr ⟨⟨id, by simp [h1], h2⟩, h3⟩) hTB (fun b h => .inl h)
    refine ⟨Z', U.flatMap g'.fp, M, ⟨MutsR.more (fun b h => .inl h) hmuts, hress, ?_, ?_, fun b hb => .inl (r'.z0 b hb), ?_, ?_, r'.os, r'.tp, r'.ou, r'.sz, ?_⟩⟩
    · refine List.nodup_append.2 ⟨r'.nodup_fps (List.nodup_append.1 hUT).1, hM.nd, ?_⟩
      rintro b h1 b' h2 rfl
      obtain ⟨id, h3, h4⟩ := List.mem_flatMap.1 h1
      obtain ⟨id2, h5, h6⟩ := hM.sub b h2
      have := r'.dj id id2 b h4 h6
      subst this
      exact hUTd id h3 h5
    · intro b hb
      rcases List.mem_append.1 hb with hb | hb
      · obtain ⟨id, h1, h2⟩ := List.mem_flatMap.1 hb
        refine ⟨?_, (r'.sp id b h2).2⟩
        rintro (hz | ⟨⟨id2, h3, h4⟩, _⟩)
        · exact (r'.sp id b h2).1 hz
        · have := r'.dj id id2 b h2 h4
          subst this
          rcases List.mem_append.1 h3 with h3 | h3
          · exact hUTd id h1 h3
          · exact hdis id (by simp [h1]) h3
      · obtain ⟨id, h1, h2⟩ := hM.sub b hb
        refine ⟨?_, (r'.sp id b h2).2⟩
        rintro (hz | ⟨_, hz⟩)
        · exact (r'.sp id b h2).1 hz
        · exact hz hb
    · rintro b (hz | ⟨⟨id, _, h2⟩, _⟩)
      · rcases r'.zu b hz with h | h
        · exact .inl h
        · exact .inr h
      · exact .inr (r'.sp id b h2).2
    · rintro b (hz | ⟨⟨id, _, h2⟩, _⟩)
      · exact r'.zl b hz
      · exact (r'.rt id).lt b h2
    · intro b hb hnb
      refine r'.fr b hb ?_
      rintro (h | h)
      · exact hnb h
      · have : b < w.heap.size := hb
        omega
  cases e with
  | exit i => cases hk
  | normal => exact fin hk
  | ret => exact fin hk
end
end VM
