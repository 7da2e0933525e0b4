/- The contracts of all functions that the law reaches. -/
import Derived.Test.YtljofbhokcdklaaVSt
import Derived.Test.YtljofbhokcdklaaVRa
import Derived.Test.YtljofbhokcdklaaGVa
import Derived.Test.YtljofbhokcdklaaProg
set_option linter.unusedVariables false
open Go Go.Proofs Go.Shelf VM
set_option maxRecDepth 100000
abbrev c0 : CK := .pair .str (.pair (.int .i64) .unit)
abbrev c1 : CK := .pair (.int .i64) (.pair (.int .i64) (.pair (.int .i64) .unit))
abbrev c2 : CK := .pair (.int .i64) c1
def tt : List (Nat × TD) := [(3, .val (.int .i64) 8 []), (4, .val .bool 1 []), (5, .val (.int .u8) 1 []), (9, .val .str 16 []), (22, .val (.sl (.sl c0)) 24 []), (23, .val (.sl c2) 32 []), (26, .val (.sl c0) 24 []), (29, .val (.sl (.sl c0)) 24 []), (31, .val (.sl c2) 32 []), (40, .val (.sl (.int .u8)) 1 []), (51, .val c2 32 [(0, (.int .i64)), (1, (.int .i64)), (2, (.int .i64)), (3, (.int .i64))]), (54, .val c0 24 [(0, .str), (1, (.int .i64))]), (82, .val (.sl c0) 24 []), (87, .val c2 32 [(0, (.int .i64)), (1, (.int .i64)), (2, (.int .i64)), (3, (.int .i64))]), (123, .val c0 24 [(0, .str), (1, (.int .i64))]), (131, .map .str (.int .i64)), (132, .val (.sl .str) 16 [])]
theorem ttOk : TTok Try.prog tt := ttB_ok (by kernel_rfl)
def g82 : Sg := ⟨[(.imm, c0), (.imm, (.int .i64))], [(.imm, (.int .i64))]⟩
noncomputable def C82 : Ct := ⟨82, g82, fun k x => VF.laws_szEntry k x.1 x.2.1⟩
def h82 : HT := .leaf
noncomputable def e82 : List Ct := []
theorem k82 (k : Nat) (x : g82.In) : evFn tt e82 k Try.f82 [0] h82 g82 x = C82.run k x := by kernel_rfl
theorem S82 : SoundC Try.prog C82 := sndK (fn := Try.f82) ttOk eN (by kernel_rfl) (by kernel_rfl) (by kernel_rfl) (by kernel_rfl) k82
def g42 : Sg := ⟨[(.imm, (.sl c0)), (.imm, (.int .i64))], [(.imm, (.int .i64))]⟩
noncomputable def C42 : Ct := ⟨42, g42, fun k x => VF.laws_szEntryS k x.1 x.2.1⟩
def h42 : HT := (.n .leaf (.n .leaf (.n .leaf (.j [(1, .one (.int .i64))] (.n .leaf (.l [(1, .one (.int .i64)), (5, .one (.int .i64))] .leaf)) .leaf))))
noncomputable def e42 : List Ct := [C82]
theorem k42 (k : Nat) (x : g42.In) : evFn tt e42 k Try.f42 [0] h42 g42 x = C42.run k x := by kernel_rfl
theorem S42 : SoundC Try.prog C42 := sndK (fn := Try.f42) ttOk (eC S82 eN) (by kernel_rfl) (by kernel_rfl) (by kernel_rfl) (by kernel_rfl) k42
def g8 : Sg := ⟨[(.imm, (.sl (.sl c0))), (.imm, (.int .i64))], [(.imm, (.int .i64))]⟩
noncomputable def C8 : Ct := ⟨8, g8, fun k x => VF.laws_szEntrySS k x.1 x.2.1⟩
def h8 : HT := (.n .leaf (.n .leaf (.n .leaf (.j [(1, .one (.int .i64))] (.n .leaf (.l [(1, .one (.int .i64)), (5, .one (.int .i64))] .leaf)) .leaf))))
noncomputable def e8 : List Ct := [C42]
theorem k8 (k : Nat) (x : g8.In) : evFn tt e8 k Try.f8 [0] h8 g8 x = C8.run k x := by kernel_rfl
theorem S8 : SoundC Try.prog C8 := sndK (fn := Try.f8) ttOk (eC S42 eN) (by kernel_rfl) (by kernel_rfl) (by kernel_rfl) (by kernel_rfl) k8
def g9 : Sg := ⟨[(.imm, (.sl c2)), (.imm, (.int .i64))], [(.imm, (.int .i64))]⟩
noncomputable def C9 : Ct := ⟨9, g9, fun k x => VF.laws_szDealingS k x.1 x.2.1⟩
def h9 : HT := .leaf
noncomputable def e9 : List Ct := []
theorem k9 (k : Nat) (x : g9.In) : evFn tt e9 k Try.f9 [0] h9 g9 x = C9.run k x := by kernel_rfl
theorem S9 : SoundC Try.prog C9 := sndK (fn := Try.f9) ttOk eN (by kernel_rfl) (by kernel_rfl) (by kernel_rfl) (by kernel_rfl) k9
def g62 : Sg := ⟨[(.imm, (.sl c0)), (.imm, .str), (.imm, (.int .i64))], [(.own true, (.sl c0))]⟩
noncomputable def C62 : Ct := ⟨62, g62, fun k x => VF.spec_l35Add k x.1 x.2.1 x.2.2.1⟩
def h62 : HT := (.n .leaf (.n .leaf (.j [(2, .one (.int .i64)), (7, .one (.int .i64))] (.l [(2, .one (.int .i64)), (7, .one (.int .i64))] .leaf) (.n .leaf (.n .leaf (.j [(2, .one (.int .i64)), (8, .one (.row true c0)), (9, .one (.sl c0))] .leaf .leaf))))))
noncomputable def e62 : List Ct := []
theorem k62 (k : Nat) (x : g62.In) : evFn tt e62 k Try.f62 [0, 1] h62 g62 x = C62.run k x := by kernel_rfl
theorem S62 : SoundC Try.prog C62 := sndK (fn := Try.f62) ttOk eN (by kernel_rfl) (by kernel_rfl) (by kernel_rfl) (by kernel_rfl) k62
def g79 : Sg := ⟨[(.imm, (.int .i64)), (.imm, (.int .i64)), (.imm, (.int .i64))], [(.imm, .bool)]⟩
noncomputable def C79 : Ct := ⟨79, g79, fun k x => VF.spec_l1In k x.1 x.2.1 x.2.2.1⟩
def h79 : HT := .leaf
noncomputable def e79 : List Ct := []
theorem k79 (k : Nat) (x : g79.In) : evFn tt e79 k Try.f79 [0, 1, 2] h79 g79 x = C79.run k x := by kernel_rfl
theorem S79 : SoundC Try.prog C79 := sndK (fn := Try.f79) ttOk eN (by kernel_rfl) (by kernel_rfl) (by kernel_rfl) (by kernel_rfl) k79
def g84 : Sg := ⟨[(.imm, .str)], [(.imm, .bool)]⟩
noncomputable def C84 : Ct := ⟨84, g84, fun k x => VF.spec_IsCode k x.1⟩
def h84 : HT := (.n .leaf (.j [] (.n .leaf (.l [(3, .one (.int .i64))] (.n .leaf (.j [(3, .one (.int .i64))] (.j [(3, .one (.int .i64)), (4, .one (.bool))] .leaf .leaf) .leaf)))) .leaf))
noncomputable def e84 : List Ct := []
theorem k84 (k : Nat) (x : g84.In) : evFn tt e84 k Try.f84 [0] h84 g84 x = C84.run k x := by kernel_rfl
theorem S84 : SoundC Try.prog C84 := sndK (fn := Try.f84) ttOk eN (by kernel_rfl) (by kernel_rfl) (by kernel_rfl) (by kernel_rfl) k84
def g83 : Sg := ⟨[(.imm, (.sl c0))], [(.imm, .bool)]⟩
noncomputable def C83 : Ct := ⟨83, g83, fun k x => VF.spec_IsTrial k x.1⟩
def h83 : HT := (.n .leaf (.n .leaf (.j [(3, .one (.int .i64))] (.n .leaf (.l [(3, .one (.int .i64)), (4, .one (.int .i64))] (.n .leaf (.j [(3, .one (.int .i64)), (4, .one (.int .i64))] (.j [(3, .one (.int .i64)), (4, .one (.int .i64))] .leaf .leaf) .leaf)))) .leaf)))
noncomputable def e83 : List Ct := [C79, C84]
theorem k83 (k : Nat) (x : g83.In) : evFn tt e83 k Try.f83 [0] h83 g83 x = C83.run k x := by kernel_rfl
theorem S83 : SoundC Try.prog C83 := sndK (fn := Try.f83) ttOk (eC S79 (eC S84 eN)) (by kernel_rfl) (by kernel_rfl) (by kernel_rfl) (by kernel_rfl) k83
def g43 : Sg := ⟨[(.imm, (.sl (.sl c0)))], [(.own true, (.sl c0)), (.imm, .bool)]⟩
noncomputable def C43 : Ct := ⟨43, g43, fun k x => VF.spec_JoinTrials k x.1⟩
def h43 : HT := (.n .leaf (.n .leaf (.j [(4, .one (.row true c0))] (.n .leaf (.l [(4, .one (.row true c0)), (5, .one (.int .i64))] (.n .leaf (.j [(4, .one (.row true c0)), (5, .one (.int .i64))] (.n .leaf (.n .leaf (.l [(4, .one (.row true c0)), (5, .one (.int .i64)), (6, .one (.int .i64))] .leaf))) .leaf)))) .leaf)))
noncomputable def e43 : List Ct := [C62, C83]
theorem k43 (k : Nat) (x : g43.In) : evFn tt e43 k Try.f43 [0] h43 g43 x = C43.run k x := by kernel_rfl
theorem S43 : SoundC Try.prog C43 := sndK (fn := Try.f43) ttOk (eC S62 (eC S83 eN)) (by kernel_rfl) (by kernel_rfl) (by kernel_rfl) (by kernel_rfl) k43
def g44 : Sg := ⟨[(.imm, (.sl c2)), (.imm, (.int .i64))], [(.imm, .bool)]⟩
noncomputable def C44 : Ct := ⟨44, g44, fun k x => VF.spec_AreDealings k x.1 x.2.1⟩
def h44 : HT := (.n .leaf (.n .leaf (.j [] (.n .leaf (.l [(5, .one (.int .i64))] (.n .leaf (.j [(5, .one (.int .i64))] .leaf .leaf)))) .leaf)))
noncomputable def e44 : List Ct := [C79]
theorem k44 (k : Nat) (x : g44.In) : evFn tt e44 k Try.f44 [0, 1] h44 g44 x = C44.run k x := by kernel_rfl
theorem S44 : SoundC Try.prog C44 := sndK (fn := Try.f44) ttOk (eC S79 eN) (by kernel_rfl) (by kernel_rfl) (by kernel_rfl) (by kernel_rfl) k44
def g45 : Sg := ⟨[(.imm, (.sl c0)), (.imm, (.sl c0))], [(.own true, (.sl c0)), (.imm, .bool)]⟩
noncomputable def C45 : Ct := ⟨45, g45, fun k x => VF.spec_AddEntries k x.1 x.2.1⟩
def h45 : HT := (.n .leaf (.n .leaf (.j [(6, .one (.row true c0))] (.n .leaf (.l [(6, .one (.row true c0)), (7, .one (.int .i64))] (.n .leaf (.j [(6, .one (.row true c0)), (7, .one (.int .i64))] (.n .leaf (.j [(6, .one (.row true c0)), (7, .one (.int .i64)), (8, .var [.str, .int .i64])] .leaf (.j [(6, .one (.row true c0)), (7, .one (.int .i64)), (8, .var [.str, .int .i64])] .leaf .leaf))) .leaf)))) .leaf)))
noncomputable def e45 : List Ct := [C62, C79, C84]
theorem k45 (k : Nat) (x : g45.In) : evFn tt e45 k Try.f45 [0, 1] h45 g45 x = C45.run k x := by kernel_rfl
theorem S45 : SoundC Try.prog C45 := sndK (fn := Try.f45) ttOk (eC S62 (eC S79 (eC S84 eN))) (by kernel_rfl) (by kernel_rfl) (by kernel_rfl) (by kernel_rfl) k45
def g46 : Sg := ⟨[(.imm, (.sl c2)), (.imm, (.int .i64))], [(.own true, (.sl c0))]⟩
noncomputable def C46 : Ct := ⟨46, g46, fun k x => VF.spec_EliminationOf k x.1 x.2.1⟩
def h46 : HT := (.n .leaf (.n .leaf (.j [(5, .one (.row true c0))] (.n .leaf (.l [(5, .one (.row true c0)), (6, .one (.int .i64))] .leaf)) .leaf)))
noncomputable def e46 : List Ct := [C44, C62]
theorem k46 (k : Nat) (x : g46.In) : evFn tt e46 k Try.f46 [0, 1] h46 g46 x = C46.run k x := by kernel_rfl
theorem S46 : SoundC Try.prog C46 := sndK (fn := Try.f46) ttOk (eC S44 (eC S62 eN)) (by kernel_rfl) (by kernel_rfl) (by kernel_rfl) (by kernel_rfl) k46
def g10 : Sg := ⟨[(.imm, (.sl (.sl c0))), (.imm, (.sl c2))], [(.own true, (.sl c0)), (.imm, .bool)]⟩
noncomputable def C10 : Ct := ⟨10, g10, fun k x => VF.spec_GroupTrial k x.1 x.2.1⟩
def h10 : HT := (.n .leaf (.n .leaf (.j [(6, .one (.row true c0))] .leaf .leaf)))
noncomputable def e10 : List Ct := [C43, C44, C45, C46]
theorem k10 (k : Nat) (x : g10.In) : evFn tt e10 k Try.f10 [0, 1] h10 g10 x = C10.run k x := by kernel_rfl
theorem S10 : SoundC Try.prog C10 := sndK (fn := Try.f10) ttOk (eC S43 (eC S44 (eC S45 (eC S46 eN)))) (by kernel_rfl) (by kernel_rfl) (by kernel_rfl) (by kernel_rfl) k10
def g85 : Sg := ⟨[(.imm, c0)], [(.imm, c0)]⟩
noncomputable def C85 : Ct := ⟨85, g85, fun k x => VF.laws_toEntry k x.1⟩
def h85 : HT := .leaf
noncomputable def e85 : List Ct := []
theorem k85 (k : Nat) (x : g85.In) : evFn tt e85 k Try.f85 [0] h85 g85 x = C85.run k x := by kernel_rfl
theorem S85 : SoundC Try.prog C85 := sndK (fn := Try.f85) ttOk eN (by kernel_rfl) (by kernel_rfl) (by kernel_rfl) (by kernel_rfl) k85
def g47 : Sg := ⟨[(.imm, (.sl c0))], [(.own true, (.sl c0))]⟩
noncomputable def C47 : Ct := ⟨47, g47, fun k x => VF.laws_toEntryS k x.1⟩
def h47 : HT := (.n .leaf (.n .leaf (.j [(3, .one (.row true c0))] (.n .leaf (.l [(3, .one (.row true c0)), (4, .one (.int .i64))] .leaf)) .leaf)))
noncomputable def e47 : List Ct := [C85]
theorem k47 (k : Nat) (x : g47.In) : evFn tt e47 k Try.f47 [0] h47 g47 x = C47.run k x := by kernel_rfl
theorem S47 : SoundC Try.prog C47 := sndK (fn := Try.f47) ttOk (eC S85 eN) (by kernel_rfl) (by kernel_rfl) (by kernel_rfl) (by kernel_rfl) k47
def g11 : Sg := ⟨[(.imm, (.sl (.sl c0)))], [(.own true, (.sl (.sl c0)))]⟩
noncomputable def C11 : Ct := ⟨11, g11, fun k x => VF.laws_toEntrySS k x.1⟩
def h11 : HT := (.n .leaf (.n .leaf (.j [(3, .one (.row true (.sl c0)))] (.n .leaf (.l [(3, .one (.row true (.sl c0))), (4, .one (.int .i64))] .leaf)) .leaf)))
noncomputable def e11 : List Ct := [C47]
theorem k11 (k : Nat) (x : g11.In) : evFn tt e11 k Try.f11 [0] h11 g11 x = C11.run k x := by kernel_rfl
theorem S11 : SoundC Try.prog C11 := sndK (fn := Try.f11) ttOk (eC S47 eN) (by kernel_rfl) (by kernel_rfl) (by kernel_rfl) (by kernel_rfl) k11
def g48 : Sg := ⟨[(.imm, c2)], [(.imm, c2)]⟩
noncomputable def C48 : Ct := ⟨48, g48, fun k x => VF.laws_toDealing k x.1⟩
def h48 : HT := .leaf
noncomputable def e48 : List Ct := []
theorem k48 (k : Nat) (x : g48.In) : evFn tt e48 k Try.f48 [0] h48 g48 x = C48.run k x := by kernel_rfl
theorem S48 : SoundC Try.prog C48 := sndK (fn := Try.f48) ttOk eN (by kernel_rfl) (by kernel_rfl) (by kernel_rfl) (by kernel_rfl) k48
def g12 : Sg := ⟨[(.imm, (.sl c2))], [(.own true, (.sl c2))]⟩
noncomputable def C12 : Ct := ⟨12, g12, fun k x => VF.laws_toDealingS k x.1⟩
def h12 : HT := (.n .leaf (.n .leaf (.j [(3, .one (.row true c2))] (.n .leaf (.l [(3, .one (.row true c2)), (4, .one (.int .i64))] .leaf)) .leaf)))
noncomputable def e12 : List Ct := [C48]
theorem k12 (k : Nat) (x : g12.In) : evFn tt e12 k Try.f12 [0] h12 g12 x = C12.run k x := by kernel_rfl
theorem S12 : SoundC Try.prog C12 := sndK (fn := Try.f12) ttOk (eC S48 eN) (by kernel_rfl) (by kernel_rfl) (by kernel_rfl) (by kernel_rfl) k12
def g58 : Sg := ⟨[(.imm, .str)], [(.imm, .bool)]⟩
noncomputable def C58 : Ct := ⟨58, g58, fun k x => VF.impl_IsCode k x.1⟩
def h58 : HT := (.n .leaf (.j [] (.n .leaf (.l [(3, .one (.int .i64))] (.n .leaf (.j [(3, .one (.int .i64))] (.j [(3, .one (.int .i64)), (4, .one (.bool))] .leaf .leaf) .leaf)))) .leaf))
noncomputable def e58 : List Ct := []
theorem k58 (k : Nat) (x : g58.In) : evFn tt e58 k Try.f58 [0] h58 g58 x = C58.run k x := by kernel_rfl
theorem S58 : SoundC Try.prog C58 := sndK (fn := Try.f58) ttOk eN (by kernel_rfl) (by kernel_rfl) (by kernel_rfl) (by kernel_rfl) k58
def g59 : Sg := ⟨[(.imm, (.int .i64)), (.imm, (.int .i64)), (.imm, (.int .i64))], [(.imm, .bool)]⟩
noncomputable def C59 : Ct := ⟨59, g59, fun k x => VF.impl_in k x.1 x.2.1 x.2.2.1⟩
def h59 : HT := .leaf
noncomputable def e59 : List Ct := []
theorem k59 (k : Nat) (x : g59.In) : evFn tt e59 k Try.f59 [0, 1, 2] h59 g59 x = C59.run k x := by kernel_rfl
theorem S59 : SoundC Try.prog C59 := sndK (fn := Try.f59) ttOk eN (by kernel_rfl) (by kernel_rfl) (by kernel_rfl) (by kernel_rfl) k59
def g91 : Sg := ⟨[(.mut, (.sl .str))], []⟩
noncomputable def C91 : Ct := ⟨91, g91, fun k x => VF.slices_Sort_string_string k x.1⟩
def Try.laysSort_ren : Go.Shelf.Ren := ⟨fun | 190 => 91 | 125 => 116 | 258 => 115 | 128 => 146 | 129 => 147 | 302 => 137 | 303 => 138 | 304 => 139 | 305 => 140 | 306 => 141 | 307 => 142 | 308 => 143 | 309 => 144 | 310 => 145 | 333 => 159 | 329 => 160 | 330 => 161 | 334 => 162 | 335 => 163 | 336 => 164 | 344 => 170 | n => n, fun | 31 => 132 | 9 => 9 | 3 => 3 | 46 => 152 | 0 => 0 | 51 => 180 | 53 => 182 | 4 => 4 | 183 => 173 | 182 => 172 | 131 => 133 | 5 => 5 | 218 => 191 | 222 => 195 | 228 => 200 | 229 => 163 | n => n, fun | n => n⟩
theorem Try.laysSort : Go.Proofs.Lays.n190 Try.prog Try.laysSort_ren where
  mixed := by kernel_rfl
  f125 := Try.func116.trans (congrArg some (by kernel_rfl))
  f128 := Try.func146.trans (congrArg some (by kernel_rfl))
  f129 := Try.func147.trans (congrArg some (by kernel_rfl))
  f190 := Try.func91.trans (congrArg some (by kernel_rfl))
  f258 := Try.func115.trans (congrArg some (by kernel_rfl))
  f302 := Try.func137.trans (congrArg some (by kernel_rfl))
  f303 := Try.func138.trans (congrArg some (by kernel_rfl))
  f304 := Try.func139.trans (congrArg some (by kernel_rfl))
  f305 := Try.func140.trans (congrArg some (by kernel_rfl))
  f306 := Try.func141.trans (congrArg some (by kernel_rfl))
  f307 := Try.func142.trans (congrArg some (by kernel_rfl))
  f308 := Try.func143.trans (congrArg some (by kernel_rfl))
  f309 := Try.func144.trans (congrArg some (by kernel_rfl))
  f310 := Try.func145.trans (congrArg some (by kernel_rfl))
  f329 := Try.func160.trans (congrArg some (by kernel_rfl))
  f330 := Try.func161.trans (congrArg some (by kernel_rfl))
  f333 := Try.func159.trans (congrArg some (by kernel_rfl))
  f334 := Try.func162.trans (congrArg some (by kernel_rfl))
  f335 := Try.func163.trans (congrArg some (by kernel_rfl))
  f336 := Try.func164.trans (congrArg some (by kernel_rfl))
  f344 := Try.func170.trans (congrArg some (by kernel_rfl))
  t0 := Try.underlying0
  a0 := Try.isAgg0
  z0 := Try.sizeOf0
  v0 := Try.zeroValue0
  t3 := Try.underlying3
  a3 := Try.isAgg3
  z3 := Try.sizeOf3
  v3 := Try.zeroValue3
  t4 := Try.underlying4
  a4 := Try.isAgg4
  z4 := Try.sizeOf4
  v4 := Try.zeroValue4
  t5 := Try.underlying5
  a5 := Try.isAgg5
  z5 := Try.sizeOf5
  v5 := Try.zeroValue5
  t9 := Try.underlying9
  a9 := Try.isAgg9
  z9 := Try.sizeOf9
  v9 := Try.zeroValue9
  t31 := Try.underlying132
  a31 := Try.isAgg132
  z31 := Try.sizeOf132
  v31 := Try.zeroValue132
  t46 := Try.underlying152
  a46 := Try.isAgg152
  z46 := Try.sizeOf152
  v46 := Try.zeroValue152
  t51 := Try.underlying180
  a51 := Try.isAgg180
  z51 := Try.sizeOf180
  v51 := Try.zeroValue180
  t53 := Try.underlying182
  a53 := Try.isAgg182
  z53 := Try.sizeOf182
  v53 := Try.zeroValue182
  t131 := Try.underlying133
  a131 := Try.isAgg133
  z131 := Try.sizeOf133
  v131 := Try.zeroValue133
  t182 := Try.underlying172
  a182 := Try.isAgg172
  z182 := Try.sizeOf172
  v182 := Try.zeroValue172
  t183 := Try.underlying173
  a183 := Try.isAgg173
  z183 := Try.sizeOf173
  v183 := Try.zeroValue173
  t218 := Try.underlying191
  a218 := Try.isAgg191
  z218 := Try.sizeOf191
  v218 := Try.zeroValue191
  t222 := Try.underlying195
  a222 := Try.isAgg195
  z222 := Try.sizeOf195
  v222 := Try.zeroValue195
  t228 := Try.underlying200
  a228 := Try.isAgg200
  z228 := Try.sizeOf200
  v228 := Try.zeroValue200
  t229 := Try.underlying163
  a229 := Try.isAgg163
  z229 := Try.sizeOf163
  v229 := Try.zeroValue163
theorem S91 : SoundC Try.prog C91 := sortS_sound Try.laysSort (f := 91) rfl (fun k x y h => h) (callK (fn := Try.f91) (by kernel_rfl) (by kernel_rfl) (by kernel_rfl))
def g60 : Sg := ⟨[(.imm, (.sl c0))], [(.own true, (.sl c0))]⟩
noncomputable def C60 : Ct := ⟨60, g60, fun k x => VF.impl_totals k x.1⟩
def h60 : HT := (.n .leaf (.n .leaf (.n .leaf (.j [(3, .one (.map .str (.int .i64))), (4, .one (.row true .str))] (.n .leaf (.l [(3, .one (.map .str (.int .i64))), (4, .one (.row true .str)), (14, .one (.sl c0)), (15, .one (.int .i64)), (16, .one (.int .i64))] .leaf)) (.n .leaf (.n .leaf (.j [(9, .one (.row true c0))] (.n .leaf (.l [(3, .one (.map .str (.int .i64))), (9, .one (.row true c0)), (45, .one (.row true .str)), (46, .one (.int .i64)), (47, .one (.int .i64))] .leaf)) .leaf)))))))
noncomputable def e60 : List Ct := [C91]
theorem k60 (k : Nat) (x : g60.In) : evFn tt e60 k Try.f60 [0] h60 g60 x = C60.run k x := by kernel_rfl
theorem S60 : SoundC Try.prog C60 := sndK (fn := Try.f60) ttOk (eC S91 eN) (by kernel_rfl) (by kernel_rfl) (by kernel_rfl) (by kernel_rfl) k60
def g24 : Sg := ⟨[(.imm, (.sl c0)), (.imm, (.sl c0))], [(.own true, (.sl c0)), (.imm, .bool)]⟩
noncomputable def C24 : Ct := ⟨24, g24, fun k x => VF.impl_AddEntries k x.1 x.2.1⟩
def h24 : HT := (.n .leaf (.n .leaf (.j [(6, .one (.sl c0))] .leaf (.j [(6, .one (.sl c0))] (.n .leaf (.l [(6, .one (.sl c0)), (20, .one (.sl c0)), (21, .one (.int .i64)), (22, .one (.int .i64))] .leaf)) .leaf))))
noncomputable def e24 : List Ct := [C58, C59, C60]
theorem k24 (k : Nat) (x : g24.In) : evFn tt e24 k Try.f24 [0, 1] h24 g24 x = C24.run k x := by kernel_rfl
theorem S24 : SoundC Try.prog C24 := sndK (fn := Try.f24) ttOk (eC S58 (eC S59 (eC S60 eN))) (by kernel_rfl) (by kernel_rfl) (by kernel_rfl) (by kernel_rfl) k24
def g65 : Sg := ⟨[(.imm, (.sl c0))], [(.imm, .bool)]⟩
noncomputable def C65 : Ct := ⟨65, g65, fun k x => VF.impl_IsTrial k x.1⟩
def h65 : HT := (.n .leaf (.n .leaf (.j [(3, .one (.int .i64))] (.n .leaf (.l [(3, .one (.int .i64)), (6, .one (.sl c0)), (7, .one (.int .i64)), (8, .one (.int .i64))] (.n .leaf (.n .leaf (.n (.n .leaf (.j [(3, .one (.int .i64)), (5, .var [.str, .int .i64]), (6, .one (.sl c0)), (7, .one (.int .i64)), (8, .one (.int .i64))] .leaf .leaf)) .leaf))))) .leaf)))
noncomputable def e65 : List Ct := [C58, C59]
theorem k65 (k : Nat) (x : g65.In) : evFn tt e65 k Try.f65 [0] h65 g65 x = C65.run k x := by kernel_rfl
theorem S65 : SoundC Try.prog C65 := sndK (fn := Try.f65) ttOk (eC S58 (eC S59 eN)) (by kernel_rfl) (by kernel_rfl) (by kernel_rfl) (by kernel_rfl) k65
def g28 : Sg := ⟨[(.imm, (.sl (.sl c0)))], [(.own true, (.sl c0)), (.imm, .bool)]⟩
noncomputable def C28 : Ct := ⟨28, g28, fun k x => VF.impl_JoinTrials k x.1⟩
def h28 : HT := (.n .leaf (.n .leaf (.n .leaf (.j [(4, .one (.row true c0))] (.n .leaf (.l [(4, .one (.row true c0)), (11, .one (.sl (.sl c0))), (12, .one (.int .i64)), (13, .one (.int .i64))] .leaf)) .leaf))))
noncomputable def e28 : List Ct := [C60, C65]
theorem k28 (k : Nat) (x : g28.In) : evFn tt e28 k Try.f28 [0] h28 g28 x = C28.run k x := by kernel_rfl
theorem S28 : SoundC Try.prog C28 := sndK (fn := Try.f28) ttOk (eC S60 (eC S65 eN)) (by kernel_rfl) (by kernel_rfl) (by kernel_rfl) (by kernel_rfl) k28
def g49 : Sg := ⟨[(.imm, (.sl c2)), (.imm, (.int .i64))], [(.imm, .bool)]⟩
noncomputable def C49 : Ct := ⟨49, g49, fun k x => VF.impl_AreDealings k x.1 x.2.1⟩
def h49 : HT := (.n .leaf (.j [] .leaf (.j [] (.n .leaf (.l [(15, .one (.sl c2)), (16, .one (.int .i64)), (17, .one (.int .i64))] (.n .leaf (.n .leaf (.j [(15, .one (.sl c2)), (16, .one (.int .i64)), (17, .one (.int .i64))] .leaf .leaf))))) .leaf)))
noncomputable def e49 : List Ct := [C59]
theorem k49 (k : Nat) (x : g49.In) : evFn tt e49 k Try.f49 [0, 1] h49 g49 x = C49.run k x := by kernel_rfl
theorem S49 : SoundC Try.prog C49 := sndK (fn := Try.f49) ttOk (eC S59 eN) (by kernel_rfl) (by kernel_rfl) (by kernel_rfl) (by kernel_rfl) k49
def g50 : Sg := ⟨[(.imm, (.sl c2)), (.imm, (.int .i64))], [(.own true, (.sl c0))]⟩
noncomputable def C50 : Ct := ⟨50, g50, fun k x => VF.impl_EliminationOf k x.1 x.2.1⟩
def h50 : HT := (.n .leaf (.n .leaf (.n .leaf (.j [(5, .one (.row true c0))] (.n .leaf (.l [(5, .one (.row true c0)), (14, .one (.sl c2)), (15, .one (.int .i64)), (16, .one (.int .i64))] .leaf)) .leaf))))
noncomputable def e50 : List Ct := [C49, C60]
theorem k50 (k : Nat) (x : g50.In) : evFn tt e50 k Try.f50 [0, 1] h50 g50 x = C50.run k x := by kernel_rfl
theorem S50 : SoundC Try.prog C50 := sndK (fn := Try.f50) ttOk (eC S49 (eC S60 eN)) (by kernel_rfl) (by kernel_rfl) (by kernel_rfl) (by kernel_rfl) k50
def g13 : Sg := ⟨[(.imm, (.sl (.sl c0))), (.imm, (.sl c2))], [(.own true, (.sl c0)), (.imm, .bool)]⟩
noncomputable def C13 : Ct := ⟨13, g13, fun k x => VF.impl_GroupTrial k x.1 x.2.1⟩
def h13 : HT := .leaf
noncomputable def e13 : List Ct := [C24, C28, C49, C50]
theorem k13 (k : Nat) (x : g13.In) : evFn tt e13 k Try.f13 [0, 1] h13 g13 x = C13.run k x := by kernel_rfl
theorem S13 : SoundC Try.prog C13 := sndK (fn := Try.f13) ttOk (eC S24 (eC S28 (eC S49 (eC S50 eN)))) (by kernel_rfl) (by kernel_rfl) (by kernel_rfl) (by kernel_rfl) k13
def g51 : Sg := ⟨[(.imm, c0), (.imm, c0)], [(.imm, .bool)]⟩
noncomputable def C51 : Ct := ⟨51, g51, fun k x => VF.laws_eqEntry k x.1 x.2.1⟩
def h51 : HT := .leaf
noncomputable def e51 : List Ct := []
theorem k51 (k : Nat) (x : g51.In) : evFn tt e51 k Try.f51 [0, 1] h51 g51 x = C51.run k x := by kernel_rfl
theorem S51 : SoundC Try.prog C51 := sndK (fn := Try.f51) ttOk eN (by kernel_rfl) (by kernel_rfl) (by kernel_rfl) (by kernel_rfl) k51
def g14 : Sg := ⟨[(.imm, (.sl c0)), (.imm, (.sl c0))], [(.imm, .bool)]⟩
noncomputable def C14 : Ct := ⟨14, g14, fun k x => VF.laws_eqEntryS k x.1 x.2.1⟩
def h14 : HT := (.n .leaf (.n .leaf (.j [] (.n .leaf (.l [(5, .one (.int .i64))] .leaf)) .leaf)))
noncomputable def e14 : List Ct := [C51]
theorem k14 (k : Nat) (x : g14.In) : evFn tt e14 k Try.f14 [0, 1] h14 g14 x = C14.run k x := by kernel_rfl
theorem S14 : SoundC Try.prog C14 := sndK (fn := Try.f14) ttOk (eC S51 eN) (by kernel_rfl) (by kernel_rfl) (by kernel_rfl) (by kernel_rfl) k14
def g15 : Sg := ⟨[(.imm, (.sl (.sl c0))), (.imm, (.sl (.sl c0)))], [(.imm, .bool)]⟩
noncomputable def C15 : Ct := ⟨15, g15, fun k x => VF.laws_eqEntrySS k x.1 x.2.1⟩
def h15 : HT := (.n .leaf (.n .leaf (.j [] (.n .leaf (.l [(5, .one (.int .i64))] .leaf)) .leaf)))
noncomputable def e15 : List Ct := [C14]
theorem k15 (k : Nat) (x : g15.In) : evFn tt e15 k Try.f15 [0, 1] h15 g15 x = C15.run k x := by kernel_rfl
theorem S15 : SoundC Try.prog C15 := sndK (fn := Try.f15) ttOk (eC S14 eN) (by kernel_rfl) (by kernel_rfl) (by kernel_rfl) (by kernel_rfl) k15
def g52 : Sg := ⟨[(.imm, c2), (.imm, c2)], [(.imm, .bool)]⟩
noncomputable def C52 : Ct := ⟨52, g52, fun k x => VF.laws_eqDealing k x.1 x.2.1⟩
def h52 : HT := .leaf
noncomputable def e52 : List Ct := []
theorem k52 (k : Nat) (x : g52.In) : evFn tt e52 k Try.f52 [0, 1] h52 g52 x = C52.run k x := by kernel_rfl
theorem S52 : SoundC Try.prog C52 := sndK (fn := Try.f52) ttOk eN (by kernel_rfl) (by kernel_rfl) (by kernel_rfl) (by kernel_rfl) k52
def g16 : Sg := ⟨[(.imm, (.sl c2)), (.imm, (.sl c2))], [(.imm, .bool)]⟩
noncomputable def C16 : Ct := ⟨16, g16, fun k x => VF.laws_eqDealingS k x.1 x.2.1⟩
def h16 : HT := (.n .leaf (.n .leaf (.j [] (.n .leaf (.l [(5, .one (.int .i64))] .leaf)) .leaf)))
noncomputable def e16 : List Ct := [C52]
theorem k16 (k : Nat) (x : g16.In) : evFn tt e16 k Try.f16 [0, 1] h16 g16 x = C16.run k x := by kernel_rfl
theorem S16 : SoundC Try.prog C16 := sndK (fn := Try.f16) ttOk (eC S52 eN) (by kernel_rfl) (by kernel_rfl) (by kernel_rfl) (by kernel_rfl) k16
def g53 : Sg := ⟨[(.imm, (.int .i64))], [(.imm, .str)]⟩
noncomputable def C53 : Ct := ⟨53, g53, fun k x => VF.laws_markText k x.1⟩
def h53 : HT := (.n .leaf (.n .leaf (.n .leaf (.j [(3, .one (.str))] (.l [(0, .one (.int .i64)), (3, .one (.str))] .leaf) .leaf))))
noncomputable def e53 : List Ct := []
theorem k53 (k : Nat) (x : g53.In) : evFn tt e53 k Try.f53 [] h53 g53 x = C53.run k x := by kernel_rfl
theorem S53 : SoundC Try.prog C53 := sndK (fn := Try.f53) ttOk eN (by kernel_rfl) (by kernel_rfl) (by kernel_rfl) (by kernel_rfl) k53
def g19 : Sg := ⟨[(.mut, (.sl c0)), (.imm, (.int .i64))], [(.imm, (.int .i64))]⟩
noncomputable def C19 : Ct := ⟨19, g19, fun k x => VF.laws_markEntryS k x.1 x.2.1⟩
def h19 : HT := (.n .leaf (.j [(0, .pm (.sl c0)), (1, .one (.int .i64))] (.n .leaf (.l [(0, .pm (.sl c0)), (1, .one (.int .i64)), (5, .one (.int .i64))] (.n .leaf (.n (.j [(0, .pm (.sl c0)), (1, .one (.int .i64)), (5, .one (.int .i64))] .leaf .leaf) .leaf)))) .leaf))
noncomputable def e19 : List Ct := [C53]
theorem k19 (k : Nat) (x : g19.In) : evFn tt e19 k Try.f19 [0] h19 g19 x = C19.run k x := by kernel_rfl
theorem S19 : SoundC Try.prog C19 := sndK (fn := Try.f19) ttOk (eC S53 eN) (by kernel_rfl) (by kernel_rfl) (by kernel_rfl) (by kernel_rfl) k19
def g17 : Sg := ⟨[(.mut, (.sl (.sl c0))), (.imm, (.int .i64))], [(.imm, (.int .i64))]⟩
noncomputable def C17 : Ct := ⟨17, g17, fun k x => VF.laws_markEntrySS k x.1 x.2.1⟩
def h17 : HT := (.n .leaf (.j [(0, .pm (.sl (.sl c0))), (1, .one (.int .i64))] (.n .leaf (.l [(0, .pm (.sl (.sl c0))), (1, .one (.int .i64)), (5, .one (.int .i64))] .leaf)) .leaf))
noncomputable def e17 : List Ct := [C19]
theorem k17 (k : Nat) (x : g17.In) : evFn tt e17 k Try.f17 [0] h17 g17 x = C17.run k x := by kernel_rfl
theorem S17 : SoundC Try.prog C17 := sndK (fn := Try.f17) ttOk (eC S19 eN) (by kernel_rfl) (by kernel_rfl) (by kernel_rfl) (by kernel_rfl) k17
def g18 : Sg := ⟨[(.mut, (.sl c2)), (.imm, (.int .i64))], [(.imm, (.int .i64))]⟩
noncomputable def C18 : Ct := ⟨18, g18, fun k x => VF.laws_markDealingS k x.1 x.2.1⟩
def h18 : HT := (.n .leaf (.j [(0, .pm (.sl c2)), (1, .one (.int .i64))] (.n .leaf (.l [(0, .pm (.sl c2)), (1, .one (.int .i64)), (5, .one (.int .i64))] (.n .leaf (.n (.j [(0, .pm (.sl c2)), (1, .one (.int .i64)), (5, .one (.int .i64))] .leaf (.n .leaf (.j [(0, .pm (.sl c2)), (1, .one (.int .i64)), (5, .one (.int .i64))] .leaf (.n .leaf (.j [(0, .pm (.sl c2)), (1, .one (.int .i64)), (5, .one (.int .i64))] .leaf .leaf))))) .leaf)))) .leaf))
noncomputable def e18 : List Ct := []
theorem k18 (k : Nat) (x : g18.In) : evFn tt e18 k Try.f18 [0] h18 g18 x = C18.run k x := by kernel_rfl
theorem S18 : SoundC Try.prog C18 := sndK (fn := Try.f18) ttOk eN (by kernel_rfl) (by kernel_rfl) (by kernel_rfl) (by kernel_rfl) k18
def g20 : Sg := ⟨[(.imm, (.sl c0)), (.imm, (.int .i64))], [(.imm, (.int .i64))]⟩
noncomputable def C20 : Ct := ⟨20, g20, fun k x => VF.laws_heldEntryS k x.1 x.2.1⟩
def h20 : HT := (.n .leaf (.j [(1, .one (.int .i64))] (.n .leaf (.l [(1, .one (.int .i64)), (5, .one (.int .i64))] .leaf)) .leaf))
noncomputable def e20 : List Ct := [C53]
theorem k20 (k : Nat) (x : g20.In) : evFn tt e20 k Try.f20 [0] h20 g20 x = C20.run k x := by kernel_rfl
theorem S20 : SoundC Try.prog C20 := sndK (fn := Try.f20) ttOk (eC S53 eN) (by kernel_rfl) (by kernel_rfl) (by kernel_rfl) (by kernel_rfl) k20
def g3 : Sg := ⟨[(.imm, (.sl (.sl c0))), (.imm, (.sl c2))], [(.imm, .bool)]⟩
noncomputable def C3 : Ct := ⟨3, g3, fun k x => VF.laws_FnExactGroupTrial k x.1 x.2.1⟩
def h3 : HT := (.n .leaf (.n .leaf (.n .leaf (.n .leaf (.n .leaf (.n .leaf (.n .leaf (.n .leaf (.n .leaf (.n .leaf (.j [(6, .one (.row true c0)), (7, .one (.bool)), (8, .one (.row true (.sl c0))), (9, .one (.row true c2)), (10, .one (.row true c0)), (11, .one (.bool))] .leaf (.n .leaf (.n .leaf (.n .leaf (.n .leaf (.n .leaf (.j [(6, .one (.row true c0)), (7, .one (.bool)), (10, .one (.row true c0))] .leaf (.n .leaf (.n .leaf (.n .leaf (.n .leaf (.n .leaf (.n .leaf (.n .leaf (.j [(10, .one (.row true c0)), (13, .one (.int .i64))] .leaf .leaf)))))))))))))))))))))))))
noncomputable def e3 : List Ct := [C8, C9, C10, C11, C12, C13, C14, C15, C16, C17, C18, C19, C20]
theorem k3 (k : Nat) (x : g3.In) : evFn tt e3 k Try.f3 [0, 1] h3 g3 x = C3.run k x := by kernel_rfl
theorem S3 : SoundC Try.prog C3 := sndK (fn := Try.f3) ttOk (eC S8 (eC S9 (eC S10 (eC S11 (eC S12 (eC S13 (eC S14 (eC S15 (eC S16 (eC S17 (eC S18 (eC S19 (eC S20 eN))))))))))))) (by kernel_rfl) (by kernel_rfl) (by kernel_rfl) (by kernel_rfl) k3

