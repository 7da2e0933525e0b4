/- The contracts of all functions that the law reaches. -/
import Derived.Test.YtljofbhokcdklaaVG3
import Derived.Test.YtljofbhokcdklaaJVa
import Derived.Test.YtljofbhokcdklaaProg
set_option linter.unusedVariables false
open Go Go.Proofs Go.Shelf VM
set_option maxRecDepth 100000
abbrev c0 : CK := .pair .str (.pair (.int .i64) .unit)
abbrev c1 : CK := .pair (.int .i64) (.pair (.int .i64) (.pair (.int .i64) .unit))
abbrev c2 : CK := .pair (.int .i64) c1
abbrev c3 : CK := .pair (.sl (.int .u8)) (.pair (.int .i64) (.pair (.int .i64) .unit))
abbrev c4 : CK := .pair (.int .i64) (.pair (.int .i64) (.pair (.sl c0) .unit))
def tt : List (Nat × TD) := [(3, .val (.int .i64) 8 []), (4, .val .bool 1 []), (5, .val (.int .u8) 1 []), (9, .val .str 16 []), (26, .val (.sl c0) 24 []), (29, .val (.sl (.sl c0)) 24 []), (31, .val (.sl c2) 32 []), (40, .val (.sl (.int .u8)) 1 []), (42, .val (.sl c4) 40 []), (51, .val c2 32 [(0, (.int .i64)), (1, (.int .i64)), (2, (.int .i64)), (3, (.int .i64))]), (54, .val c0 24 [(0, .str), (1, (.int .i64))]), (64, .val (.sl (.int .i64)) 8 []), (91, .other), (100, .val c4 40 [(0, (.int .i64)), (1, (.int .i64)), (2, (.sl c0))]), (126, .val c3 40 [(0, (.sl (.int .u8))), (1, (.int .i64)), (2, (.int .i64))]), (131, .map .str (.int .i64)), (132, .val (.sl .str) 16 [])]
theorem ttOk : TTok Try.prog tt := ttB_ok (by kernel_rfl)
def g62 : Sg := ⟨[(.imm, (.sl c0)), (.imm, .str), (.imm, (.int .i64))], [(.own true, (.sl c0))]⟩
noncomputable def C62 : Ct := ⟨62, g62, fun k x => VF.spec_l35Add k x.1 x.2.1 x.2.2.1⟩
def h62 : HT := (.n .leaf (.n .leaf (.j [(2, .one (.int .i64)), (7, .one (.int .i64))] (.l [(2, .one (.int .i64)), (7, .one (.int .i64))] .leaf) (.n .leaf (.n .leaf (.j [(2, .one (.int .i64)), (8, .one (.row true c0)), (9, .one (.sl c0))] .leaf .leaf))))))
noncomputable def e62 : List Ct := []
theorem k62 (k : Nat) (x : g62.In) : evFn tt e62 k Try.f62 [0, 1] h62 g62 x = C62.run k x := by kernel_rfl
theorem S62 : SoundC Try.prog C62 := sndK (fn := Try.f62) ttOk eN (by kernel_rfl) (by kernel_rfl) (by kernel_rfl) (by kernel_rfl) k62
def g79 : Sg := ⟨[(.imm, (.int .i64)), (.imm, (.int .i64)), (.imm, (.int .i64))], [(.imm, .bool)]⟩
noncomputable def C79 : Ct := ⟨79, g79, fun k x => VF.spec_l1In k x.1 x.2.1 x.2.2.1⟩
def h79 : HT := .leaf
noncomputable def e79 : List Ct := []
theorem k79 (k : Nat) (x : g79.In) : evFn tt e79 k Try.f79 [0, 1, 2] h79 g79 x = C79.run k x := by kernel_rfl
theorem S79 : SoundC Try.prog C79 := sndK (fn := Try.f79) ttOk eN (by kernel_rfl) (by kernel_rfl) (by kernel_rfl) (by kernel_rfl) k79
def g84 : Sg := ⟨[(.imm, .str)], [(.imm, .bool)]⟩
noncomputable def C84 : Ct := ⟨84, g84, fun k x => VF.spec_IsCode k x.1⟩
def h84 : HT := (.n .leaf (.j [] (.n .leaf (.l [(3, .one (.int .i64))] (.n .leaf (.j [(3, .one (.int .i64))] (.j [(3, .one (.int .i64)), (4, .one (.bool))] .leaf .leaf) .leaf)))) .leaf))
noncomputable def e84 : List Ct := []
theorem k84 (k : Nat) (x : g84.In) : evFn tt e84 k Try.f84 [0] h84 g84 x = C84.run k x := by kernel_rfl
theorem S84 : SoundC Try.prog C84 := sndK (fn := Try.f84) ttOk eN (by kernel_rfl) (by kernel_rfl) (by kernel_rfl) (by kernel_rfl) k84
def g83 : Sg := ⟨[(.imm, (.sl c0))], [(.imm, .bool)]⟩
noncomputable def C83 : Ct := ⟨83, g83, fun k x => VF.spec_IsTrial k x.1⟩
def h83 : HT := (.n .leaf (.n .leaf (.j [(3, .one (.int .i64))] (.n .leaf (.l [(3, .one (.int .i64)), (4, .one (.int .i64))] (.n .leaf (.j [(3, .one (.int .i64)), (4, .one (.int .i64))] (.j [(3, .one (.int .i64)), (4, .one (.int .i64))] .leaf .leaf) .leaf)))) .leaf)))
noncomputable def e83 : List Ct := [C79, C84]
theorem k83 (k : Nat) (x : g83.In) : evFn tt e83 k Try.f83 [0] h83 g83 x = C83.run k x := by kernel_rfl
theorem S83 : SoundC Try.prog C83 := sndK (fn := Try.f83) ttOk (eC S79 (eC S84 eN)) (by kernel_rfl) (by kernel_rfl) (by kernel_rfl) (by kernel_rfl) k83
def g43 : Sg := ⟨[(.imm, (.sl (.sl c0)))], [(.own true, (.sl c0)), (.imm, .bool)]⟩
noncomputable def C43 : Ct := ⟨43, g43, fun k x => VF.spec_JoinTrials k x.1⟩
def h43 : HT := (.n .leaf (.n .leaf (.j [(4, .one (.row true c0))] (.n .leaf (.l [(4, .one (.row true c0)), (5, .one (.int .i64))] (.n .leaf (.j [(4, .one (.row true c0)), (5, .one (.int .i64))] (.n .leaf (.n .leaf (.l [(4, .one (.row true c0)), (5, .one (.int .i64)), (6, .one (.int .i64))] .leaf))) .leaf)))) .leaf)))
noncomputable def e43 : List Ct := [C62, C83]
theorem k43 (k : Nat) (x : g43.In) : evFn tt e43 k Try.f43 [0] h43 g43 x = C43.run k x := by kernel_rfl
theorem S43 : SoundC Try.prog C43 := sndK (fn := Try.f43) ttOk (eC S62 (eC S83 eN)) (by kernel_rfl) (by kernel_rfl) (by kernel_rfl) (by kernel_rfl) k43
def g44 : Sg := ⟨[(.imm, (.sl c2)), (.imm, (.int .i64))], [(.imm, .bool)]⟩
noncomputable def C44 : Ct := ⟨44, g44, fun k x => VF.spec_AreDealings k x.1 x.2.1⟩
def h44 : HT := (.n .leaf (.n .leaf (.j [] (.n .leaf (.l [(5, .one (.int .i64))] (.n .leaf (.j [(5, .one (.int .i64))] .leaf .leaf)))) .leaf)))
noncomputable def e44 : List Ct := [C79]
theorem k44 (k : Nat) (x : g44.In) : evFn tt e44 k Try.f44 [0, 1] h44 g44 x = C44.run k x := by kernel_rfl
theorem S44 : SoundC Try.prog C44 := sndK (fn := Try.f44) ttOk (eC S79 eN) (by kernel_rfl) (by kernel_rfl) (by kernel_rfl) (by kernel_rfl) k44
def g45 : Sg := ⟨[(.imm, (.sl c0)), (.imm, (.sl c0))], [(.own true, (.sl c0)), (.imm, .bool)]⟩
noncomputable def C45 : Ct := ⟨45, g45, fun k x => VF.spec_AddEntries k x.1 x.2.1⟩
def h45 : HT := (.n .leaf (.n .leaf (.j [(6, .one (.row true c0))] (.n .leaf (.l [(6, .one (.row true c0)), (7, .one (.int .i64))] (.n .leaf (.j [(6, .one (.row true c0)), (7, .one (.int .i64))] (.n .leaf (.j [(6, .one (.row true c0)), (7, .one (.int .i64)), (8, .var [.str, .int .i64])] .leaf (.j [(6, .one (.row true c0)), (7, .one (.int .i64)), (8, .var [.str, .int .i64])] .leaf .leaf))) .leaf)))) .leaf)))
noncomputable def e45 : List Ct := [C62, C79, C84]
theorem k45 (k : Nat) (x : g45.In) : evFn tt e45 k Try.f45 [0, 1] h45 g45 x = C45.run k x := by kernel_rfl
theorem S45 : SoundC Try.prog C45 := sndK (fn := Try.f45) ttOk (eC S62 (eC S79 (eC S84 eN))) (by kernel_rfl) (by kernel_rfl) (by kernel_rfl) (by kernel_rfl) k45
def g46 : Sg := ⟨[(.imm, (.sl c2)), (.imm, (.int .i64))], [(.own true, (.sl c0))]⟩
noncomputable def C46 : Ct := ⟨46, g46, fun k x => VF.spec_EliminationOf k x.1 x.2.1⟩
def h46 : HT := (.n .leaf (.n .leaf (.j [(5, .one (.row true c0))] (.n .leaf (.l [(5, .one (.row true c0)), (6, .one (.int .i64))] .leaf)) .leaf)))
noncomputable def e46 : List Ct := [C44, C62]
theorem k46 (k : Nat) (x : g46.In) : evFn tt e46 k Try.f46 [0, 1] h46 g46 x = C46.run k x := by kernel_rfl
theorem S46 : SoundC Try.prog C46 := sndK (fn := Try.f46) ttOk (eC S44 (eC S62 eN)) (by kernel_rfl) (by kernel_rfl) (by kernel_rfl) (by kernel_rfl) k46
def g10 : Sg := ⟨[(.imm, (.sl (.sl c0))), (.imm, (.sl c2))], [(.own true, (.sl c0)), (.imm, .bool)]⟩
noncomputable def C10 : Ct := ⟨10, g10, fun k x => VF.spec_GroupTrial k x.1 x.2.1⟩
def h10 : HT := (.n .leaf (.n .leaf (.j [(6, .one (.row true c0))] .leaf .leaf)))
noncomputable def e10 : List Ct := [C43, C44, C45, C46]
theorem k10 (k : Nat) (x : g10.In) : evFn tt e10 k Try.f10 [0, 1] h10 g10 x = C10.run k x := by kernel_rfl
theorem S10 : SoundC Try.prog C10 := sndK (fn := Try.f10) ttOk (eC S43 (eC S44 (eC S45 (eC S46 eN)))) (by kernel_rfl) (by kernel_rfl) (by kernel_rfl) (by kernel_rfl) k10
def g58 : Sg := ⟨[(.imm, .str)], [(.imm, .bool)]⟩
noncomputable def C58 : Ct := ⟨58, g58, fun k x => VF.impl_IsCode k x.1⟩
def h58 : HT := (.n .leaf (.j [] (.n .leaf (.l [(3, .one (.int .i64))] (.n .leaf (.j [(3, .one (.int .i64))] (.j [(3, .one (.int .i64)), (4, .one (.bool))] .leaf .leaf) .leaf)))) .leaf))
noncomputable def e58 : List Ct := []
theorem k58 (k : Nat) (x : g58.In) : evFn tt e58 k Try.f58 [0] h58 g58 x = C58.run k x := by kernel_rfl
theorem S58 : SoundC Try.prog C58 := sndK (fn := Try.f58) ttOk eN (by kernel_rfl) (by kernel_rfl) (by kernel_rfl) (by kernel_rfl) k58
def g59 : Sg := ⟨[(.imm, (.int .i64)), (.imm, (.int .i64)), (.imm, (.int .i64))], [(.imm, .bool)]⟩
noncomputable def C59 : Ct := ⟨59, g59, fun k x => VF.impl_in k x.1 x.2.1 x.2.2.1⟩
def h59 : HT := .leaf
noncomputable def e59 : List Ct := []
theorem k59 (k : Nat) (x : g59.In) : evFn tt e59 k Try.f59 [0, 1, 2] h59 g59 x = C59.run k x := by kernel_rfl
theorem S59 : SoundC Try.prog C59 := sndK (fn := Try.f59) ttOk eN (by kernel_rfl) (by kernel_rfl) (by kernel_rfl) (by kernel_rfl) k59
def g91 : Sg := ⟨[(.mut, (.sl .str))], []⟩
noncomputable def C91 : Ct := ⟨91, g91, fun k x => VF.slices_Sort_string_string k x.1⟩
def Try.laysSort_ren : Go.Shelf.Ren := ⟨fun | 190 => 91 | 125 => 116 | 258 => 115 | 128 => 146 | 129 => 147 | 302 => 137 | 303 => 138 | 304 => 139 | 305 => 140 | 306 => 141 | 307 => 142 | 308 => 143 | 309 => 144 | 310 => 145 | 333 => 159 | 329 => 160 | 330 => 161 | 334 => 162 | 335 => 163 | 336 => 164 | 344 => 170 | n => n, fun | 31 => 132 | 9 => 9 | 3 => 3 | 46 => 152 | 0 => 0 | 51 => 180 | 53 => 182 | 4 => 4 | 183 => 173 | 182 => 172 | 131 => 133 | 5 => 5 | 218 => 191 | 222 => 195 | 228 => 200 | 229 => 163 | n => n, fun | n => n⟩
theorem Try.laysSort : Go.Proofs.Lays.n190 Try.prog Try.laysSort_ren where
  mixed := by kernel_rfl
  f125 := Try.func116.trans (congrArg some (by kernel_rfl))
  f128 := Try.func146.trans (congrArg some (by kernel_rfl))
  f129 := Try.func147.trans (congrArg some (by kernel_rfl))
  f190 := Try.func91.trans (congrArg some (by kernel_rfl))
  f258 := Try.func115.trans (congrArg some (by kernel_rfl))
  f302 := Try.func137.trans (congrArg some (by kernel_rfl))
  f303 := Try.func138.trans (congrArg some (by kernel_rfl))
  f304 := Try.func139.trans (congrArg some (by kernel_rfl))
  f305 := Try.func140.trans (congrArg some (by kernel_rfl))
  f306 := Try.func141.trans (congrArg some (by kernel_rfl))
  f307 := Try.func142.trans (congrArg some (by kernel_rfl))
  f308 := Try.func143.trans (congrArg some (by kernel_rfl))
  f309 := Try.func144.trans (congrArg some (by kernel_rfl))
  f310 := Try.func145.trans (congrArg some (by kernel_rfl))
  f329 := Try.func160.trans (congrArg some (by kernel_rfl))
  f330 := Try.func161.trans (congrArg some (by kernel_rfl))
  f333 := Try.func159.trans (congrArg some (by kernel_rfl))
  f334 := Try.func162.trans (congrArg some (by kernel_rfl))
  f335 := Try.func163.trans (congrArg some (by kernel_rfl))
  f336 := Try.func164.trans (congrArg some (by kernel_rfl))
  f344 := Try.func170.trans (congrArg some (by kernel_rfl))
  t0 := Try.underlying0
  a0 := Try.isAgg0
  z0 := Try.sizeOf0
  v0 := Try.zeroValue0
  t3 := Try.underlying3
  a3 := Try.isAgg3
  z3 := Try.sizeOf3
  v3 := Try.zeroValue3
  t4 := Try.underlying4
  a4 := Try.isAgg4
  z4 := Try.sizeOf4
  v4 := Try.zeroValue4
  t5 := Try.underlying5
  a5 := Try.isAgg5
  z5 := Try.sizeOf5
  v5 := Try.zeroValue5
  t9 := Try.underlying9
  a9 := Try.isAgg9
  z9 := Try.sizeOf9
  v9 := Try.zeroValue9
  t31 := Try.underlying132
  a31 := Try.isAgg132
  z31 := Try.sizeOf132
  v31 := Try.zeroValue132
  t46 := Try.underlying152
  a46 := Try.isAgg152
  z46 := Try.sizeOf152
  v46 := Try.zeroValue152
  t51 := Try.underlying180
  a51 := Try.isAgg180
  z51 := Try.sizeOf180
  v51 := Try.zeroValue180
  t53 := Try.underlying182
  a53 := Try.isAgg182
  z53 := Try.sizeOf182
  v53 := Try.zeroValue182
  t131 := Try.underlying133
  a131 := Try.isAgg133
  z131 := Try.sizeOf133
  v131 := Try.zeroValue133
  t182 := Try.underlying172
  a182 := Try.isAgg172
  z182 := Try.sizeOf172
  v182 := Try.zeroValue172
  t183 := Try.underlying173
  a183 := Try.isAgg173
  z183 := Try.sizeOf173
  v183 := Try.zeroValue173
  t218 := Try.underlying191
  a218 := Try.isAgg191
  z218 := Try.sizeOf191
  v218 := Try.zeroValue191
  t222 := Try.underlying195
  a222 := Try.isAgg195
  z222 := Try.sizeOf195
  v222 := Try.zeroValue195
  t228 := Try.underlying200
  a228 := Try.isAgg200
  z228 := Try.sizeOf200
  v228 := Try.zeroValue200
  t229 := Try.underlying163
  a229 := Try.isAgg163
  z229 := Try.sizeOf163
  v229 := Try.zeroValue163
theorem S91 : SoundC Try.prog C91 := sortS_sound Try.laysSort (f := 91) rfl (fun k x y h => h) (callK (fn := Try.f91) (by kernel_rfl) (by kernel_rfl) (by kernel_rfl))
def g60 : Sg := ⟨[(.imm, (.sl c0))], [(.own true, (.sl c0))]⟩
noncomputable def C60 : Ct := ⟨60, g60, fun k x => VF.impl_totals k x.1⟩
def h60 : HT := (.n .leaf (.n .leaf (.n .leaf (.j [(3, .one (.map .str (.int .i64))), (4, .one (.row true .str))] (.n .leaf (.l [(3, .one (.map .str (.int .i64))), (4, .one (.row true .str)), (14, .one (.sl c0)), (15, .one (.int .i64)), (16, .one (.int .i64))] .leaf)) (.n .leaf (.n .leaf (.j [(9, .one (.row true c0))] (.n .leaf (.l [(3, .one (.map .str (.int .i64))), (9, .one (.row true c0)), (45, .one (.row true .str)), (46, .one (.int .i64)), (47, .one (.int .i64))] .leaf)) .leaf)))))))
noncomputable def e60 : List Ct := [C91]
theorem k60 (k : Nat) (x : g60.In) : evFn tt e60 k Try.f60 [0] h60 g60 x = C60.run k x := by kernel_rfl
theorem S60 : SoundC Try.prog C60 := sndK (fn := Try.f60) ttOk (eC S91 eN) (by kernel_rfl) (by kernel_rfl) (by kernel_rfl) (by kernel_rfl) k60
def g24 : Sg := ⟨[(.imm, (.sl c0)), (.imm, (.sl c0))], [(.own true, (.sl c0)), (.imm, .bool)]⟩
noncomputable def C24 : Ct := ⟨24, g24, fun k x => VF.impl_AddEntries k x.1 x.2.1⟩
def h24 : HT := (.n .leaf (.n .leaf (.j [(6, .one (.sl c0))] .leaf (.j [(6, .one (.sl c0))] (.n .leaf (.l [(6, .one (.sl c0)), (20, .one (.sl c0)), (21, .one (.int .i64)), (22, .one (.int .i64))] .leaf)) .leaf))))
noncomputable def e24 : List Ct := [C58, C59, C60]
theorem k24 (k : Nat) (x : g24.In) : evFn tt e24 k Try.f24 [0, 1] h24 g24 x = C24.run k x := by kernel_rfl
theorem S24 : SoundC Try.prog C24 := sndK (fn := Try.f24) ttOk (eC S58 (eC S59 (eC S60 eN))) (by kernel_rfl) (by kernel_rfl) (by kernel_rfl) (by kernel_rfl) k24
def g65 : Sg := ⟨[(.imm, (.sl c0))], [(.imm, .bool)]⟩
noncomputable def C65 : Ct := ⟨65, g65, fun k x => VF.impl_IsTrial k x.1⟩
def h65 : HT := (.n .leaf (.n .leaf (.j [(3, .one (.int .i64))] (.n .leaf (.l [(3, .one (.int .i64)), (6, .one (.sl c0)), (7, .one (.int .i64)), (8, .one (.int .i64))] (.n .leaf (.n .leaf (.n (.n .leaf (.j [(3, .one (.int .i64)), (5, .var [.str, .int .i64]), (6, .one (.sl c0)), (7, .one (.int .i64)), (8, .one (.int .i64))] .leaf .leaf)) .leaf))))) .leaf)))
noncomputable def e65 : List Ct := [C58, C59]
theorem k65 (k : Nat) (x : g65.In) : evFn tt e65 k Try.f65 [0] h65 g65 x = C65.run k x := by kernel_rfl
theorem S65 : SoundC Try.prog C65 := sndK (fn := Try.f65) ttOk (eC S58 (eC S59 eN)) (by kernel_rfl) (by kernel_rfl) (by kernel_rfl) (by kernel_rfl) k65
def g28 : Sg := ⟨[(.imm, (.sl (.sl c0)))], [(.own true, (.sl c0)), (.imm, .bool)]⟩
noncomputable def C28 : Ct := ⟨28, g28, fun k x => VF.impl_JoinTrials k x.1⟩
def h28 : HT := (.n .leaf (.n .leaf (.n .leaf (.j [(4, .one (.row true c0))] (.n .leaf (.l [(4, .one (.row true c0)), (11, .one (.sl (.sl c0))), (12, .one (.int .i64)), (13, .one (.int .i64))] .leaf)) .leaf))))
noncomputable def e28 : List Ct := [C60, C65]
theorem k28 (k : Nat) (x : g28.In) : evFn tt e28 k Try.f28 [0] h28 g28 x = C28.run k x := by kernel_rfl
theorem S28 : SoundC Try.prog C28 := sndK (fn := Try.f28) ttOk (eC S60 (eC S65 eN)) (by kernel_rfl) (by kernel_rfl) (by kernel_rfl) (by kernel_rfl) k28
def g49 : Sg := ⟨[(.imm, (.sl c2)), (.imm, (.int .i64))], [(.imm, .bool)]⟩
noncomputable def C49 : Ct := ⟨49, g49, fun k x => VF.impl_AreDealings k x.1 x.2.1⟩
def h49 : HT := (.n .leaf (.j [] .leaf (.j [] (.n .leaf (.l [(15, .one (.sl c2)), (16, .one (.int .i64)), (17, .one (.int .i64))] (.n .leaf (.n .leaf (.j [(15, .one (.sl c2)), (16, .one (.int .i64)), (17, .one (.int .i64))] .leaf .leaf))))) .leaf)))
noncomputable def e49 : List Ct := [C59]
theorem k49 (k : Nat) (x : g49.In) : evFn tt e49 k Try.f49 [0, 1] h49 g49 x = C49.run k x := by kernel_rfl
theorem S49 : SoundC Try.prog C49 := sndK (fn := Try.f49) ttOk (eC S59 eN) (by kernel_rfl) (by kernel_rfl) (by kernel_rfl) (by kernel_rfl) k49
def g50 : Sg := ⟨[(.imm, (.sl c2)), (.imm, (.int .i64))], [(.own true, (.sl c0))]⟩
noncomputable def C50 : Ct := ⟨50, g50, fun k x => VF.impl_EliminationOf k x.1 x.2.1⟩
def h50 : HT := (.n .leaf (.n .leaf (.n .leaf (.j [(5, .one (.row true c0))] (.n .leaf (.l [(5, .one (.row true c0)), (14, .one (.sl c2)), (15, .one (.int .i64)), (16, .one (.int .i64))] .leaf)) .leaf))))
noncomputable def e50 : List Ct := [C49, C60]
theorem k50 (k : Nat) (x : g50.In) : evFn tt e50 k Try.f50 [0, 1] h50 g50 x = C50.run k x := by kernel_rfl
theorem S50 : SoundC Try.prog C50 := sndK (fn := Try.f50) ttOk (eC S49 (eC S60 eN)) (by kernel_rfl) (by kernel_rfl) (by kernel_rfl) (by kernel_rfl) k50
def g13 : Sg := ⟨[(.imm, (.sl (.sl c0))), (.imm, (.sl c2))], [(.own true, (.sl c0)), (.imm, .bool)]⟩
noncomputable def C13 : Ct := ⟨13, g13, fun k x => VF.impl_GroupTrial k x.1 x.2.1⟩
def h13 : HT := .leaf
noncomputable def e13 : List Ct := [C24, C28, C49, C50]
theorem k13 (k : Nat) (x : g13.In) : evFn tt e13 k Try.f13 [0, 1] h13 g13 x = C13.run k x := by kernel_rfl
theorem S13 : SoundC Try.prog C13 := sndK (fn := Try.f13) ttOk (eC S24 (eC S28 (eC S49 (eC S50 eN)))) (by kernel_rfl) (by kernel_rfl) (by kernel_rfl) (by kernel_rfl) k13
def g21 : Sg := ⟨[(.imm, (.sl (.int .u8)))], [(.imm, .bool)]⟩
noncomputable def C21 : Ct := ⟨21, g21, fun k x => VF.laws_big k x.1⟩
def h21 : HT := .leaf
noncomputable def e21 : List Ct := []
theorem k21 (k : Nat) (x : g21.In) : evFn tt e21 k Try.f21 [0] h21 g21 x = C21.run k x := by kernel_rfl
theorem S21 : SoundC Try.prog C21 := sndK (fn := Try.f21) ttOk eN (by kernel_rfl) (by kernel_rfl) (by kernel_rfl) (by kernel_rfl) k21
def g25 : Sg := ⟨[(.imm, (.sl c0)), (.imm, (.sl c0))], [(.imm, .bool)]⟩
noncomputable def C25 : Ct := ⟨25, g25, fun k x => VF.laws_sameEntries k x.1 x.2.1⟩
def h25 : HT := (.n .leaf (.n .leaf (.j [] (.n .leaf (.l [(5, .one (.int .i64))] .leaf)) .leaf)))
noncomputable def e25 : List Ct := []
theorem k25 (k : Nat) (x : g25.In) : evFn tt e25 k Try.f25 [0, 1] h25 g25 x = C25.run k x := by kernel_rfl
theorem S25 : SoundC Try.prog C25 := sndK (fn := Try.f25) ttOk eN (by kernel_rfl) (by kernel_rfl) (by kernel_rfl) (by kernel_rfl) k25
def g54 : Sg := ⟨[(.imm, (.sl (.int .u8)))], [(.pts, c3)]⟩
noncomputable def C54 : Ct := ⟨54, g54, fun k x => VF.spec_l1New k x.1⟩
def h54 : HT := (.n .leaf (.n .leaf (.j [(3, .one (.int .i64))] (.n .leaf (.l [(3, .one (.int .i64)), (4, .one (.int .i64))] .leaf)) .leaf)))
noncomputable def e54 : List Ct := []
theorem k54 (k : Nat) (x : g54.In) : evFn tt e54 k Try.f54 [0] h54 g54 x = C54.run k x := by kernel_rfl
theorem S54 : SoundC Try.prog C54 := sndK (fn := Try.f54) ttOk eN (by kernel_rfl) (by kernel_rfl) (by kernel_rfl) (by kernel_rfl) k54
def g92 : Sg := ⟨[(.imm, (.sl c0))], [(.imm, .bool)]⟩
noncomputable def C92 : Ct := ⟨92, g92, fun k x => VF.spec_AreEntries k x.1⟩
def h92 : HT := (.n .leaf (.n .leaf (.j [(3, .one (.int .i64))] (.n .leaf (.l [(3, .one (.int .i64)), (4, .one (.int .i64))] (.n .leaf (.n (.j [(3, .one (.int .i64)), (4, .one (.int .i64))] .leaf .leaf) .leaf)))) .leaf)))
noncomputable def e92 : List Ct := [C79, C84]
theorem k92 (k : Nat) (x : g92.In) : evFn tt e92 k Try.f92 [0] h92 g92 x = C92.run k x := by kernel_rfl
theorem S92 : SoundC Try.prog C92 := sndK (fn := Try.f92) ttOk (eC S79 (eC S84 eN)) (by kernel_rfl) (by kernel_rfl) (by kernel_rfl) (by kernel_rfl) k92
def g61 : Sg := ⟨[(.imm, (.sl c4))], [(.imm, .bool)]⟩
noncomputable def C61 : Ct := ⟨61, g61, fun k x => VF.spec_AreDocuments k x.1⟩
def h61 : HT := (.n .leaf (.j [] (.n .leaf (.l [(3, .one (.int .i64))] .leaf)) .leaf))
noncomputable def e61 : List Ct := [C79, C92]
theorem k61 (k : Nat) (x : g61.In) : evFn tt e61 k Try.f61 [0] h61 g61 x = C61.run k x := by kernel_rfl
theorem S61 : SoundC Try.prog C61 := sndK (fn := Try.f61) ttOk (eC S79 (eC S92 eN)) (by kernel_rfl) (by kernel_rfl) (by kernel_rfl) (by kernel_rfl) k61
def g26 : Sg := ⟨[(.imm, (.sl c4)), (.imm, (.int .i64))], [(.own true, (.sl c0))]⟩
noncomputable def C26 : Ct := ⟨26, g26, fun k x => VF.spec_TrialBalance k x.1 x.2.1⟩
def h26 : HT := (.n .leaf (.n .leaf (.j [(5, .one (.row true c0))] (.n .leaf (.l [(5, .one (.row true c0)), (6, .one (.int .i64))] (.n .leaf (.j [(5, .one (.row true c0)), (6, .one (.int .i64))] (.n .leaf (.l [(5, .one (.row true c0)), (6, .one (.int .i64)), (7, .one (.int .i64))] .leaf)) .leaf)))) .leaf)))
noncomputable def e26 : List Ct := [C61, C62]
theorem k26 (k : Nat) (x : g26.In) : evFn tt e26 k Try.f26 [0, 1] h26 g26 x = C26.run k x := by kernel_rfl
theorem S26 : SoundC Try.prog C26 := sndK (fn := Try.f26) ttOk (eC S61 (eC S62 eN)) (by kernel_rfl) (by kernel_rfl) (by kernel_rfl) (by kernel_rfl) k26
def g96 : Sg := ⟨[(.pts, c3)], [(.imm, (.int .i64))]⟩
noncomputable def C96 : Ct := ⟨96, g96, fun k x => VF.spec_l1Byte k x.1⟩
def h96 : HT := .leaf
noncomputable def e96 : List Ct := []
theorem k96 (k : Nat) (x : g96.In) : evFn tt e96 k Try.f96 [0] h96 g96 x = C96.run k x := by kernel_rfl
theorem S96 : SoundC Try.prog C96 := sndK (fn := Try.f96) ttOk eN (by kernel_rfl) (by kernel_rfl) (by kernel_rfl) (by kernel_rfl) k96
def g67 : Sg := ⟨[(.pts, c3), (.imm, (.int .i64))], [(.imm, (.int .i64))]⟩
noncomputable def C67 : Ct := ⟨67, g67, fun k x => VF.spec_l1Below k x.1 x.2.1⟩
def h67 : HT := .leaf
noncomputable def e67 : List Ct := [C96]
theorem k67 (k : Nat) (x : g67.In) : evFn tt e67 k Try.f67 [0, 1] h67 g67 x = C67.run k x := by kernel_rfl
theorem S67 : SoundC Try.prog C67 := sndK (fn := Try.f67) ttOk (eC S96 eN) (by kernel_rfl) (by kernel_rfl) (by kernel_rfl) (by kernel_rfl) k67
def g87 : Sg := ⟨[(.pts, c3), (.imm, (.int .i64))], [(.imm, .bool)]⟩
noncomputable def C87 : Ct := ⟨87, g87, fun k x => VF.spec_l1Once k x.1 x.2.1⟩
def h87 : HT := .leaf
noncomputable def e87 : List Ct := [C67]
theorem k87 (k : Nat) (x : g87.In) : evFn tt e87 k Try.f87 [0, 1] h87 g87 x = C87.run k x := by kernel_rfl
theorem S87 : SoundC Try.prog C87 := sndK (fn := Try.f87) ttOk (eC S67 eN) (by kernel_rfl) (by kernel_rfl) (by kernel_rfl) (by kernel_rfl) k87
def g89 : Sg := ⟨[(.pts, c3), (.own, (.sl (.int .i64)))], [(.imm, (.int .i64))]⟩
noncomputable def C89 : Ct := ⟨89, g89, fun k x => VF.spec_l1PickInt k x.1 x.2.1⟩
def h89 : HT := .leaf
noncomputable def e89 : List Ct := [C67]
theorem k89 (k : Nat) (x : g89.In) : evFn tt e89 k Try.f89 [0] h89 g89 x = C89.run k x := by kernel_rfl
theorem S89 : SoundC Try.prog C89 := sndK (fn := Try.f89) ttOk (eC S67 eN) (by kernel_rfl) (by kernel_rfl) (by kernel_rfl) (by kernel_rfl) k89
def g56 : Sg := ⟨[(.pts, c3)], [(.imm, (.int .i64))]⟩
noncomputable def C56 : Ct := ⟨56, g56, fun k x => VF.spec_l4Day k x.1⟩
def h56 : HT := .leaf
noncomputable def e56 : List Ct := [C67, C87, C89]
theorem k56 (k : Nat) (x : g56.In) : evFn tt e56 k Try.f56 [0] h56 g56 x = C56.run k x := by kernel_rfl
theorem S56 : SoundC Try.prog C56 := sndK (fn := Try.f56) ttOk (eC S67 (eC S87 (eC S89 eN))) (by kernel_rfl) (by kernel_rfl) (by kernel_rfl) (by kernel_rfl) k56
def g94 : Sg := ⟨[(.pts, c3)], [(.imm, (.int .i64))]⟩
noncomputable def C94 : Ct := ⟨94, g94, fun k x => VF.spec_l1Odd k x.1⟩
def h94 : HT := .leaf
noncomputable def e94 : List Ct := [C89]
theorem k94 (k : Nat) (x : g94.In) : evFn tt e94 k Try.f94 [0] h94 g94 x = C94.run k x := by kernel_rfl
theorem S94 : SoundC Try.prog C94 := sndK (fn := Try.f94) ttOk (eC S89 eN) (by kernel_rfl) (by kernel_rfl) (by kernel_rfl) (by kernel_rfl) k94
def g119 : Sg := ⟨[(.pts, c3), (.own, (.sl .str))], [(.imm, .str)]⟩
noncomputable def C119 : Ct := ⟨119, g119, fun k x => VF.spec_l1Pick k x.1 x.2.1⟩
def h119 : HT := .leaf
noncomputable def e119 : List Ct := [C67]
theorem k119 (k : Nat) (x : g119.In) : evFn tt e119 k Try.f119 [0] h119 g119 x = C119.run k x := by kernel_rfl
theorem S119 : SoundC Try.prog C119 := sndK (fn := Try.f119) ttOk (eC S67 eN) (by kernel_rfl) (by kernel_rfl) (by kernel_rfl) (by kernel_rfl) k119
def g117 : Sg := ⟨[(.pts, c3)], [(.imm, .str)]⟩
noncomputable def C117 : Ct := ⟨117, g117, fun k x => VF.spec_l35Account k x.1⟩
def h117 : HT := .leaf
noncomputable def e117 : List Ct := [C119]
theorem k117 (k : Nat) (x : g117.In) : evFn tt e117 k Try.f117 [0] h117 g117 x = C117.run k x := by kernel_rfl
theorem S117 : SoundC Try.prog C117 := sndK (fn := Try.f117) ttOk (eC S119 eN) (by kernel_rfl) (by kernel_rfl) (by kernel_rfl) (by kernel_rfl) k117
def g93 : Sg := ⟨[(.pts, c3)], [(.own true, (.sl c0))]⟩
noncomputable def C93 : Ct := ⟨93, g93, fun k x => VF.spec_l35Entries k x.1⟩
def h93 : HT := (.n .leaf (.n .leaf (.n .leaf (.j [(0, .pp [.sl (.int .u8), .int .i64, .int .i64]), (3, .one (.row true c0)), (4, .one (.int .i64))] (.n .leaf (.l [(0, .pp [.sl (.int .u8), .int .i64, .int .i64]), (3, .one (.row true c0)), (4, .one (.int .i64)), (5, .one (.int .i64))] .leaf)) (.j [(0, .pp [.sl (.int .u8), .int .i64, .int .i64]), (3, .one (.row true c0))] .leaf .leaf)))))
noncomputable def e93 : List Ct := [C67, C87, C94, C117]
theorem k93 (k : Nat) (x : g93.In) : evFn tt e93 k Try.f93 [0] h93 g93 x = C93.run k x := by kernel_rfl
theorem S93 : SoundC Try.prog C93 := sndK (fn := Try.f93) ttOk (eC S67 (eC S87 (eC S94 (eC S117 eN)))) (by kernel_rfl) (by kernel_rfl) (by kernel_rfl) (by kernel_rfl) k93
def g112 : Sg := ⟨[(.imm, (.sl c4))], [(.own true, (.sl c4))]⟩
noncomputable def C112 : Ct := ⟨112, g112, fun k x => VF.spec_l35Copy k x.1⟩
def h112 : HT := (.n .leaf (.n .leaf (.j [(3, .one (.row true c4))] (.n .leaf (.l [(3, .one (.row true c4)), (4, .one (.int .i64))] .leaf)) .leaf)))
noncomputable def e112 : List Ct := []
theorem k112 (k : Nat) (x : g112.In) : evFn tt e112 k Try.f112 [0] h112 g112 x = C112.run k x := by kernel_rfl
theorem S112 : SoundC Try.prog C112 := sndK (fn := Try.f112) ttOk eN (by kernel_rfl) (by kernel_rfl) (by kernel_rfl) (by kernel_rfl) k112
def g110 : Sg := ⟨[(.imm, (.sl c4)), (.imm, (.int .i64)), (.imm, (.sl c0))], [(.own true, (.sl c4)), (.imm, .bool)]⟩
noncomputable def C110 : Ct := ⟨110, g110, fun k x => VF.spec_PostEntries k x.1 x.2.1 x.2.2.1⟩
def h110 : HT := .leaf
noncomputable def e110 : List Ct := [C61, C112]
theorem k110 (k : Nat) (x : g110.In) : evFn tt e110 k Try.f110 [0, 1, 2] h110 g110 x = C110.run k x := by kernel_rfl
theorem S110 : SoundC Try.prog C110 := sndK (fn := Try.f110) ttOk (eC S61 (eC S112 eN)) (by kernel_rfl) (by kernel_rfl) (by kernel_rfl) (by kernel_rfl) k110
def g86 : Sg := ⟨[(.pts, c3)], [(.own true, (.sl c4))]⟩
noncomputable def C86 : Ct := ⟨86, g86, fun k x => VF.spec_l35Documents k x.1⟩
def h86 : HT := (.n .leaf (.n .leaf (.j [(0, .pp [.sl (.int .u8), .int .i64, .int .i64]), (3, .one (.row true c4))] (.n .leaf (.l [(0, .pp [.sl (.int .u8), .int .i64, .int .i64]), (3, .one (.row true c4)), (4, .one (.int .i64))] .leaf)) (.n (.j [(0, .pp [.sl (.int .u8), .int .i64, .int .i64]), (3, .one (.row true c4)), (32, .one (.bool))] .leaf .leaf) .leaf))))
noncomputable def e86 : List Ct := [C56, C67, C87, C93, C110]
theorem k86 (k : Nat) (x : g86.In) : evFn tt e86 k Try.f86 [0] h86 g86 x = C86.run k x := by kernel_rfl
theorem S86 : SoundC Try.prog C86 := sndK (fn := Try.f86) ttOk (eC S56 (eC S67 (eC S87 (eC S93 (eC S110 eN))))) (by kernel_rfl) (by kernel_rfl) (by kernel_rfl) (by kernel_rfl) k86
def g63 : Sg := ⟨[(.pts, c3)], [(.own true, (.sl (.sl c0)))]⟩
noncomputable def C63 : Ct := ⟨63, g63, fun k x => VF.spec_l40Firms k x.1⟩
def h63 : HT := (.n .leaf (.n .leaf (.j [(0, .pp [.sl (.int .u8), .int .i64, .int .i64]), (3, .one (.row true (.sl c0)))] (.n .leaf (.l [(0, .pp [.sl (.int .u8), .int .i64, .int .i64]), (3, .one (.row true (.sl c0))), (4, .one (.int .i64))] .leaf)) .leaf)))
noncomputable def e63 : List Ct := [C26, C67, C86, C87, C93]
theorem k63 (k : Nat) (x : g63.In) : evFn tt e63 k Try.f63 [0] h63 g63 x = C63.run k x := by kernel_rfl
theorem S63 : SoundC Try.prog C63 := sndK (fn := Try.f63) ttOk (eC S26 (eC S67 (eC S86 (eC S87 (eC S93 eN))))) (by kernel_rfl) (by kernel_rfl) (by kernel_rfl) (by kernel_rfl) k63
def g64 : Sg := ⟨[(.pts, c3), (.imm, (.int .i64))], [(.own true, (.sl c2))]⟩
noncomputable def C64 : Ct := ⟨64, g64, fun k x => VF.spec_l40Dealings k x.1 x.2.1⟩
def h64 : HT := (.n .leaf (.n .leaf (.j [(0, .pp [.sl (.int .u8), .int .i64, .int .i64]), (5, .one (.row true c2))] (.n .leaf (.l [(0, .pp [.sl (.int .u8), .int .i64, .int .i64]), (5, .one (.row true c2)), (6, .one (.int .i64))] .leaf)) .leaf)))
noncomputable def e64 : List Ct := [C67, C87, C94]
theorem k64 (k : Nat) (x : g64.In) : evFn tt e64 k Try.f64 [0, 1] h64 g64 x = C64.run k x := by kernel_rfl
theorem S64 : SoundC Try.prog C64 := sndK (fn := Try.f64) ttOk (eC S67 (eC S87 (eC S94 eN))) (by kernel_rfl) (by kernel_rfl) (by kernel_rfl) (by kernel_rfl) k64
def g27 : Sg := ⟨[(.imm, (.sl (.int .u8)))], [(.own true, (.sl (.sl c0))), (.own true, (.sl c2))]⟩
noncomputable def C27 : Ct := ⟨27, g27, fun k x => VF.spec_DrawGroupTrial k x.1⟩
def h27 : HT := .leaf
noncomputable def e27 : List Ct := [C54, C63, C64]
theorem k27 (k : Nat) (x : g27.In) : evFn tt e27 k Try.f27 [0] h27 g27 x = C27.run k x := by kernel_rfl
theorem S27 : SoundC Try.prog C27 := sndK (fn := Try.f27) ttOk (eC S54 (eC S63 (eC S64 eN))) (by kernel_rfl) (by kernel_rfl) (by kernel_rfl) (by kernel_rfl) k27
def g5 : Sg := ⟨[(.imm, (.sl (.int .u8)))], [(.imm, .bool)]⟩
noncomputable def C5 : Ct := ⟨5, g5, fun k x => VF.laws_FnGroupTrials k x.1⟩
def h5 : HT := (.n .leaf (.n .leaf (.j [(3, .one (.sl (.sl c0))), (4, .one (.row true c2))] .leaf (.n .leaf (.n .leaf (.n .leaf (.n .leaf (.n .leaf (.j [(3, .one (.sl (.sl c0))), (4, .one (.row true c2)), (5, .one (.row true c0)), (9, .one (.row false (.sl c0))), (10, .one (.row true c2))] (.n .leaf (.l [(3, .one (.sl (.sl c0))), (4, .one (.row true c2)), (5, .one (.row true c0)), (9, .one (.row false (.sl c0))), (10, .one (.row true c2)), (11, .one (.int .i64))] .leaf)) (.j [(3, .one (.sl (.sl c0))), (4, .one (.row true c2)), (5, .one (.row true c0)), (9, .one (.row false (.sl c0))), (10, .one (.row true c2))] (.n .leaf (.l [(3, .one (.sl (.sl c0))), (4, .one (.row true c2)), (5, .one (.row true c0)), (9, .one (.row false (.sl c0))), (10, .one (.row true c2)), (12, .one (.int .i64))] .leaf)) (.n .leaf (.n .leaf (.n .leaf (.j [(4, .one (.row true c2)), (5, .one (.row true c0)), (14, .one (.row true c0)), (15, .one (.bool)), (16, .one (.row true c0)), (18, .one (.int .i64))] (.n .leaf (.l [(4, .one (.row true c2)), (5, .one (.row true c0)), (14, .one (.row true c0)), (15, .one (.bool)), (16, .one (.row true c0)), (18, .one (.int .i64)), (19, .one (.int .i64))] .leaf)) .leaf))))))))))))))
noncomputable def e5 : List Ct := [C10, C13, C21, C25, C27, C28]
theorem k5 (k : Nat) (x : g5.In) : evFn tt e5 k Try.f5 [0] h5 g5 x = C5.run k x := by kernel_rfl
theorem S5 : SoundC Try.prog C5 := sndK (fn := Try.f5) ttOk (eC S10 (eC S13 (eC S21 (eC S25 (eC S27 (eC S28 eN)))))) (by kernel_rfl) (by kernel_rfl) (by kernel_rfl) (by kernel_rfl) k5
