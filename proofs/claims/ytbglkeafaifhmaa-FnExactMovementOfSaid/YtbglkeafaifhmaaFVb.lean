/- The contracts of all functions that the laws of this seat reach. -/
import Derived.Test.YtbglkeafaifhmaaVSt
import Derived.Test.YtbglkeafaifhmaaVRa
import Derived.Test.YtbglkeafaifhmaaFVa
import Derived.Test.YtbglkeafaifhmaaProg
set_option linter.unusedVariables false
open Go Go.Proofs Go.Shelf VM
set_option maxRecDepth 100000
abbrev c0 : CK := .pair (.int .i64) (.pair (.int .i64) (.pair (.int .i64) (.pair (.int .i64) .unit)))
abbrev c1 : CK := .pair .str (.pair (.int .i64) .unit)
abbrev c2 : CK := .pair (.int .i64) (.pair (.int .i64) (.pair (.sl c1) .unit))
def tt : List (Nat × TD) := [(3, .val (.int .i64) 8 []), (4, .val .bool 1 []), (5, .val (.int .u8) 1 []), (9, .val .str 16 []), (22, .val (.sl c0) 32 []), (24, .val (.sl c1) 24 []), (26, .val (.sl c0) 32 []), (33, .val (.sl (.sl c1)) 24 []), (37, .val (.sl (.sl c1)) 24 []), (42, .val (.sl c2) 40 []), (45, .val (.sl c2) 40 []), (52, .val c0 32 [(0, (.int .i64)), (1, (.int .i64)), (2, (.int .i64)), (3, (.int .i64))]), (55, .val c0 32 [(0, (.int .i64)), (1, (.int .i64)), (2, (.int .i64)), (3, (.int .i64))]), (57, .val c1 24 [(0, .str), (1, (.int .i64))]), (63, .val (.sl c1) 24 []), (68, .val c2 40 [(0, (.int .i64)), (1, (.int .i64)), (2, (.sl c1))]), (71, .val c2 40 [(0, (.int .i64)), (1, (.int .i64)), (2, (.sl c1))]), (75, .map .str (.int .i64)), (76, .val (.sl .str) 16 []), (79, .val (.sl (.int .u8)) 1 []), (81, .val c1 24 [(0, .str), (1, (.int .i64))])]
theorem ttOk : TTok Try.prog tt := ttB_ok (by kernel_rfl)
def g6 : Sg := ⟨[(.imm, (.sl c0)), (.imm, (.int .i64))], [(.imm, (.int .i64))]⟩
noncomputable def C6 : Ct := ⟨6, g6, fun k x => VF.laws_szDealingS k x.1 x.2.1⟩
def h6 : HT := .leaf
noncomputable def e6 : List Ct := []
theorem k6 (k : Nat) (x : g6.In) : evFn tt e6 k Try.f6 [0] h6 g6 x = C6.run k x := by kernel_rfl
theorem S6 : SoundC Try.prog C6 := sndK (fn := Try.f6) ttOk eN (by kernel_rfl) (by kernel_rfl) (by kernel_rfl) (by kernel_rfl) k6
def g44 : Sg := ⟨[(.imm, (.int .i64)), (.imm, (.int .i64)), (.imm, (.int .i64))], [(.imm, .bool)]⟩
noncomputable def C44 : Ct := ⟨44, g44, fun k x => VF.spec_l1In k x.1 x.2.1 x.2.2.1⟩
def h44 : HT := .leaf
noncomputable def e44 : List Ct := []
theorem k44 (k : Nat) (x : g44.In) : evFn tt e44 k Try.f44 [0, 1, 2] h44 g44 x = C44.run k x := by kernel_rfl
theorem S44 : SoundC Try.prog C44 := sndK (fn := Try.f44) ttOk eN (by kernel_rfl) (by kernel_rfl) (by kernel_rfl) (by kernel_rfl) k44
def g27 : Sg := ⟨[(.imm, (.sl c0)), (.imm, (.int .i64))], [(.imm, .bool)]⟩
noncomputable def C27 : Ct := ⟨27, g27, fun k x => VF.spec_AreDealings k x.1 x.2.1⟩
def h27 : HT := (.n .leaf (.n .leaf (.j [] (.n .leaf (.l [(5, .one (.int .i64))] (.n .leaf (.j [(5, .one (.int .i64))] .leaf .leaf)))) .leaf)))
noncomputable def e27 : List Ct := [C44]
theorem k27 (k : Nat) (x : g27.In) : evFn tt e27 k Try.f27 [0, 1] h27 g27 x = C27.run k x := by kernel_rfl
theorem S27 : SoundC Try.prog C27 := sndK (fn := Try.f27) ttOk (eC S44 eN) (by kernel_rfl) (by kernel_rfl) (by kernel_rfl) (by kernel_rfl) k27
def g28 : Sg := ⟨[(.imm, (.sl c1)), (.imm, .str), (.imm, (.int .i64))], [(.own true, (.sl c1))]⟩
noncomputable def C28 : Ct := ⟨28, g28, fun k x => VF.spec_l35Add k x.1 x.2.1 x.2.2.1⟩
def h28 : HT := (.n .leaf (.n .leaf (.j [(2, .one (.int .i64)), (7, .one (.int .i64))] (.l [(2, .one (.int .i64)), (7, .one (.int .i64))] .leaf) (.n .leaf (.n .leaf (.j [(2, .one (.int .i64)), (8, .one (.row true c1)), (9, .one (.sl c1))] .leaf .leaf))))))
noncomputable def e28 : List Ct := []
theorem k28 (k : Nat) (x : g28.In) : evFn tt e28 k Try.f28 [0, 1] h28 g28 x = C28.run k x := by kernel_rfl
theorem S28 : SoundC Try.prog C28 := sndK (fn := Try.f28) ttOk eN (by kernel_rfl) (by kernel_rfl) (by kernel_rfl) (by kernel_rfl) k28
def g7 : Sg := ⟨[(.imm, (.sl c0)), (.imm, (.int .i64)), (.imm, (.int .i64))], [(.own true, (.sl c1))]⟩
noncomputable def C7 : Ct := ⟨7, g7, fun k x => VF.spec_FirmDealings k x.1 x.2.1 x.2.2.1⟩
def h7 : HT := (.n .leaf (.n .leaf (.j [(7, .one (.row true c1))] (.n .leaf (.l [(7, .one (.row true c1)), (8, .one (.int .i64))] (.n .leaf (.n (.j [(7, .one (.row true c1)), (8, .one (.int .i64))] .leaf .leaf) .leaf)))) .leaf)))
noncomputable def e7 : List Ct := [C27, C28]
theorem k7 (k : Nat) (x : g7.In) : evFn tt e7 k Try.f7 [0, 1, 2] h7 g7 x = C7.run k x := by kernel_rfl
theorem S7 : SoundC Try.prog C7 := sndK (fn := Try.f7) ttOk (eC S27 (eC S28 eN)) (by kernel_rfl) (by kernel_rfl) (by kernel_rfl) (by kernel_rfl) k7
def g29 : Sg := ⟨[(.imm, c0)], [(.imm, c0)]⟩
noncomputable def C29 : Ct := ⟨29, g29, fun k x => VF.laws_toDealing k x.1⟩
def h29 : HT := .leaf
noncomputable def e29 : List Ct := []
theorem k29 (k : Nat) (x : g29.In) : evFn tt e29 k Try.f29 [0] h29 g29 x = C29.run k x := by kernel_rfl
theorem S29 : SoundC Try.prog C29 := sndK (fn := Try.f29) ttOk eN (by kernel_rfl) (by kernel_rfl) (by kernel_rfl) (by kernel_rfl) k29
def g8 : Sg := ⟨[(.imm, (.sl c0))], [(.own true, (.sl c0))]⟩
noncomputable def C8 : Ct := ⟨8, g8, fun k x => VF.laws_toDealingS k x.1⟩
def h8 : HT := (.n .leaf (.n .leaf (.j [(3, .one (.row true c0))] (.n .leaf (.l [(3, .one (.row true c0)), (4, .one (.int .i64))] .leaf)) .leaf)))
noncomputable def e8 : List Ct := [C29]
theorem k8 (k : Nat) (x : g8.In) : evFn tt e8 k Try.f8 [0] h8 g8 x = C8.run k x := by kernel_rfl
theorem S8 : SoundC Try.prog C8 := sndK (fn := Try.f8) ttOk (eC S29 eN) (by kernel_rfl) (by kernel_rfl) (by kernel_rfl) (by kernel_rfl) k8
def g45 : Sg := ⟨[(.imm, (.int .i64)), (.imm, (.int .i64)), (.imm, (.int .i64))], [(.imm, .bool)]⟩
noncomputable def C45 : Ct := ⟨45, g45, fun k x => VF.impl_in k x.1 x.2.1 x.2.2.1⟩
def h45 : HT := .leaf
noncomputable def e45 : List Ct := []
theorem k45 (k : Nat) (x : g45.In) : evFn tt e45 k Try.f45 [0, 1, 2] h45 g45 x = C45.run k x := by kernel_rfl
theorem S45 : SoundC Try.prog C45 := sndK (fn := Try.f45) ttOk eN (by kernel_rfl) (by kernel_rfl) (by kernel_rfl) (by kernel_rfl) k45
def g30 : Sg := ⟨[(.imm, (.sl c0)), (.imm, (.int .i64))], [(.imm, .bool)]⟩
noncomputable def C30 : Ct := ⟨30, g30, fun k x => VF.impl_AreDealings k x.1 x.2.1⟩
def h30 : HT := (.n .leaf (.j [] .leaf (.j [] (.n .leaf (.l [(15, .one (.sl c0)), (16, .one (.int .i64)), (17, .one (.int .i64))] (.n .leaf (.n .leaf (.j [(15, .one (.sl c0)), (16, .one (.int .i64)), (17, .one (.int .i64))] .leaf .leaf))))) .leaf)))
noncomputable def e30 : List Ct := [C45]
theorem k30 (k : Nat) (x : g30.In) : evFn tt e30 k Try.f30 [0, 1] h30 g30 x = C30.run k x := by kernel_rfl
theorem S30 : SoundC Try.prog C30 := sndK (fn := Try.f30) ttOk (eC S45 eN) (by kernel_rfl) (by kernel_rfl) (by kernel_rfl) (by kernel_rfl) k30
def g46 : Sg := ⟨[(.mut, (.sl .str))], []⟩
noncomputable def C46 : Ct := ⟨46, g46, fun k x => VF.slices_Sort_string_string k x.1⟩
def Try.laysSort_ren : Go.Shelf.Ren := ⟨fun | 190 => 46 | 125 => 54 | 258 => 53 | 128 => 65 | 129 => 66 | 302 => 56 | 303 => 57 | 304 => 58 | 305 => 59 | 306 => 60 | 307 => 61 | 308 => 62 | 309 => 63 | 310 => 64 | 333 => 67 | 329 => 68 | 330 => 69 | 334 => 70 | 335 => 71 | 336 => 72 | 344 => 73 | n => n, fun | 31 => 76 | 9 => 9 | 3 => 3 | 46 => 86 | 0 => 0 | 51 => 96 | 53 => 98 | 4 => 4 | 183 => 89 | 182 => 88 | 131 => 77 | 5 => 5 | 218 => 99 | 222 => 103 | 228 => 105 | 229 => 106 | n => n, fun | n => n⟩
theorem Try.laysSort : Go.Proofs.Lays.n190 Try.prog Try.laysSort_ren where
  mixed := by kernel_rfl
  f125 := Try.func54.trans (congrArg some (by kernel_rfl))
  f128 := Try.func65.trans (congrArg some (by kernel_rfl))
  f129 := Try.func66.trans (congrArg some (by kernel_rfl))
  f190 := Try.func46.trans (congrArg some (by kernel_rfl))
  f258 := Try.func53.trans (congrArg some (by kernel_rfl))
  f302 := Try.func56.trans (congrArg some (by kernel_rfl))
  f303 := Try.func57.trans (congrArg some (by kernel_rfl))
  f304 := Try.func58.trans (congrArg some (by kernel_rfl))
  f305 := Try.func59.trans (congrArg some (by kernel_rfl))
  f306 := Try.func60.trans (congrArg some (by kernel_rfl))
  f307 := Try.func61.trans (congrArg some (by kernel_rfl))
  f308 := Try.func62.trans (congrArg some (by kernel_rfl))
  f309 := Try.func63.trans (congrArg some (by kernel_rfl))
  f310 := Try.func64.trans (congrArg some (by kernel_rfl))
  f329 := Try.func68.trans (congrArg some (by kernel_rfl))
  f330 := Try.func69.trans (congrArg some (by kernel_rfl))
  f333 := Try.func67.trans (congrArg some (by kernel_rfl))
  f334 := Try.func70.trans (congrArg some (by kernel_rfl))
  f335 := Try.func71.trans (congrArg some (by kernel_rfl))
  f336 := Try.func72.trans (congrArg some (by kernel_rfl))
  f344 := Try.func73.trans (congrArg some (by kernel_rfl))
  t0 := Try.underlying0
  a0 := Try.isAgg0
  z0 := Try.sizeOf0
  v0 := Try.zeroValue0
  t3 := Try.underlying3
  a3 := Try.isAgg3
  z3 := Try.sizeOf3
  v3 := Try.zeroValue3
  t4 := Try.underlying4
  a4 := Try.isAgg4
  z4 := Try.sizeOf4
  v4 := Try.zeroValue4
  t5 := Try.underlying5
  a5 := Try.isAgg5
  z5 := Try.sizeOf5
  v5 := Try.zeroValue5
  t9 := Try.underlying9
  a9 := Try.isAgg9
  z9 := Try.sizeOf9
  v9 := Try.zeroValue9
  t31 := Try.underlying76
  a31 := Try.isAgg76
  z31 := Try.sizeOf76
  v31 := Try.zeroValue76
  t46 := Try.underlying86
  a46 := Try.isAgg86
  z46 := Try.sizeOf86
  v46 := Try.zeroValue86
  t51 := Try.underlying96
  a51 := Try.isAgg96
  z51 := Try.sizeOf96
  v51 := Try.zeroValue96
  t53 := Try.underlying98
  a53 := Try.isAgg98
  z53 := Try.sizeOf98
  v53 := Try.zeroValue98
  t131 := Try.underlying77
  a131 := Try.isAgg77
  z131 := Try.sizeOf77
  v131 := Try.zeroValue77
  t182 := Try.underlying88
  a182 := Try.isAgg88
  z182 := Try.sizeOf88
  v182 := Try.zeroValue88
  t183 := Try.underlying89
  a183 := Try.isAgg89
  z183 := Try.sizeOf89
  v183 := Try.zeroValue89
  t218 := Try.underlying99
  a218 := Try.isAgg99
  z218 := Try.sizeOf99
  v218 := Try.zeroValue99
  t222 := Try.underlying103
  a222 := Try.isAgg103
  z222 := Try.sizeOf103
  v222 := Try.zeroValue103
  t228 := Try.underlying105
  a228 := Try.isAgg105
  z228 := Try.sizeOf105
  v228 := Try.zeroValue105
  t229 := Try.underlying106
  a229 := Try.isAgg106
  z229 := Try.sizeOf106
  v229 := Try.zeroValue106
theorem S46 : SoundC Try.prog C46 := sortS_sound Try.laysSort (f := 46) rfl (fun k x y h => h) (callK (fn := Try.f46) (by kernel_rfl) (by kernel_rfl) (by kernel_rfl))
def g31 : Sg := ⟨[(.imm, (.sl c1))], [(.own true, (.sl c1))]⟩
noncomputable def C31 : Ct := ⟨31, g31, fun k x => VF.impl_totals k x.1⟩
def h31 : HT := (.n .leaf (.n .leaf (.n .leaf (.j [(3, .one (.map .str (.int .i64))), (4, .one (.row true .str))] (.n .leaf (.l [(3, .one (.map .str (.int .i64))), (4, .one (.row true .str)), (14, .one (.sl c1)), (15, .one (.int .i64)), (16, .one (.int .i64))] .leaf)) (.n .leaf (.n .leaf (.j [(9, .one (.row true c1))] (.n .leaf (.l [(3, .one (.map .str (.int .i64))), (9, .one (.row true c1)), (45, .one (.row true .str)), (46, .one (.int .i64)), (47, .one (.int .i64))] .leaf)) .leaf)))))))
noncomputable def e31 : List Ct := [C46]
theorem k31 (k : Nat) (x : g31.In) : evFn tt e31 k Try.f31 [0] h31 g31 x = C31.run k x := by kernel_rfl
theorem S31 : SoundC Try.prog C31 := sndK (fn := Try.f31) ttOk (eC S46 eN) (by kernel_rfl) (by kernel_rfl) (by kernel_rfl) (by kernel_rfl) k31
def g9 : Sg := ⟨[(.imm, (.sl c0)), (.imm, (.int .i64)), (.imm, (.int .i64))], [(.own true, (.sl c1))]⟩
noncomputable def C9 : Ct := ⟨9, g9, fun k x => VF.impl_FirmDealings k x.1 x.2.1 x.2.2.1⟩
def h9 : HT := (.n .leaf (.n .leaf (.n .leaf (.j [(7, .one (.row true c1))] (.n .leaf (.l [(7, .one (.row true c1)), (16, .one (.sl c0)), (17, .one (.int .i64)), (18, .one (.int .i64))] (.n .leaf (.n .leaf (.n (.n .leaf (.j [(7, .one (.row true c1)), (9, .var [.int .i64, .int .i64, .int .i64, .int .i64]), (16, .one (.sl c0)), (17, .one (.int .i64)), (18, .one (.int .i64))] .leaf .leaf)) .leaf))))) .leaf))))
noncomputable def e9 : List Ct := [C30, C31]
theorem k9 (k : Nat) (x : g9.In) : evFn tt e9 k Try.f9 [0, 1, 2] h9 g9 x = C9.run k x := by kernel_rfl
theorem S9 : SoundC Try.prog C9 := sndK (fn := Try.f9) ttOk (eC S30 (eC S31 eN)) (by kernel_rfl) (by kernel_rfl) (by kernel_rfl) (by kernel_rfl) k9
def g32 : Sg := ⟨[(.imm, c1), (.imm, c1)], [(.imm, .bool)]⟩
noncomputable def C32 : Ct := ⟨32, g32, fun k x => VF.laws_eqEntry k x.1 x.2.1⟩
def h32 : HT := .leaf
noncomputable def e32 : List Ct := []
theorem k32 (k : Nat) (x : g32.In) : evFn tt e32 k Try.f32 [0, 1] h32 g32 x = C32.run k x := by kernel_rfl
theorem S32 : SoundC Try.prog C32 := sndK (fn := Try.f32) ttOk eN (by kernel_rfl) (by kernel_rfl) (by kernel_rfl) (by kernel_rfl) k32
def g10 : Sg := ⟨[(.imm, (.sl c1)), (.imm, (.sl c1))], [(.imm, .bool)]⟩
noncomputable def C10 : Ct := ⟨10, g10, fun k x => VF.laws_eqEntryS k x.1 x.2.1⟩
def h10 : HT := (.n .leaf (.n .leaf (.j [] (.n .leaf (.l [(5, .one (.int .i64))] .leaf)) .leaf)))
noncomputable def e10 : List Ct := [C32]
theorem k10 (k : Nat) (x : g10.In) : evFn tt e10 k Try.f10 [0, 1] h10 g10 x = C10.run k x := by kernel_rfl
theorem S10 : SoundC Try.prog C10 := sndK (fn := Try.f10) ttOk (eC S32 eN) (by kernel_rfl) (by kernel_rfl) (by kernel_rfl) (by kernel_rfl) k10
def g33 : Sg := ⟨[(.imm, c0), (.imm, c0)], [(.imm, .bool)]⟩
noncomputable def C33 : Ct := ⟨33, g33, fun k x => VF.laws_eqDealing k x.1 x.2.1⟩
def h33 : HT := .leaf
noncomputable def e33 : List Ct := []
theorem k33 (k : Nat) (x : g33.In) : evFn tt e33 k Try.f33 [0, 1] h33 g33 x = C33.run k x := by kernel_rfl
theorem S33 : SoundC Try.prog C33 := sndK (fn := Try.f33) ttOk eN (by kernel_rfl) (by kernel_rfl) (by kernel_rfl) (by kernel_rfl) k33
def g11 : Sg := ⟨[(.imm, (.sl c0)), (.imm, (.sl c0))], [(.imm, .bool)]⟩
noncomputable def C11 : Ct := ⟨11, g11, fun k x => VF.laws_eqDealingS k x.1 x.2.1⟩
def h11 : HT := (.n .leaf (.n .leaf (.j [] (.n .leaf (.l [(5, .one (.int .i64))] .leaf)) .leaf)))
noncomputable def e11 : List Ct := [C33]
theorem k11 (k : Nat) (x : g11.In) : evFn tt e11 k Try.f11 [0, 1] h11 g11 x = C11.run k x := by kernel_rfl
theorem S11 : SoundC Try.prog C11 := sndK (fn := Try.f11) ttOk (eC S33 eN) (by kernel_rfl) (by kernel_rfl) (by kernel_rfl) (by kernel_rfl) k11
def g12 : Sg := ⟨[(.mut, (.sl c0)), (.imm, (.int .i64))], [(.imm, (.int .i64))]⟩
noncomputable def C12 : Ct := ⟨12, g12, fun k x => VF.laws_markDealingS k x.1 x.2.1⟩
def h12 : HT := (.n .leaf (.j [(0, .pm (.sl c0)), (1, .one (.int .i64))] (.n .leaf (.l [(0, .pm (.sl c0)), (1, .one (.int .i64)), (5, .one (.int .i64))] (.n .leaf (.n (.j [(0, .pm (.sl c0)), (1, .one (.int .i64)), (5, .one (.int .i64))] .leaf (.n .leaf (.j [(0, .pm (.sl c0)), (1, .one (.int .i64)), (5, .one (.int .i64))] .leaf (.n .leaf (.j [(0, .pm (.sl c0)), (1, .one (.int .i64)), (5, .one (.int .i64))] .leaf .leaf))))) .leaf)))) .leaf))
noncomputable def e12 : List Ct := []
theorem k12 (k : Nat) (x : g12.In) : evFn tt e12 k Try.f12 [0] h12 g12 x = C12.run k x := by kernel_rfl
theorem S12 : SoundC Try.prog C12 := sndK (fn := Try.f12) ttOk eN (by kernel_rfl) (by kernel_rfl) (by kernel_rfl) (by kernel_rfl) k12
def g34 : Sg := ⟨[(.imm, (.int .i64))], [(.imm, .str)]⟩
noncomputable def C34 : Ct := ⟨34, g34, fun k x => VF.laws_markText k x.1⟩
def h34 : HT := (.n .leaf (.n .leaf (.n .leaf (.j [(3, .one (.str))] (.l [(0, .one (.int .i64)), (3, .one (.str))] .leaf) .leaf))))
noncomputable def e34 : List Ct := []
theorem k34 (k : Nat) (x : g34.In) : evFn tt e34 k Try.f34 [] h34 g34 x = C34.run k x := by kernel_rfl
theorem S34 : SoundC Try.prog C34 := sndK (fn := Try.f34) ttOk eN (by kernel_rfl) (by kernel_rfl) (by kernel_rfl) (by kernel_rfl) k34
def g13 : Sg := ⟨[(.mut, (.sl c1)), (.imm, (.int .i64))], [(.imm, (.int .i64))]⟩
noncomputable def C13 : Ct := ⟨13, g13, fun k x => VF.laws_markEntryS k x.1 x.2.1⟩
def h13 : HT := (.n .leaf (.j [(0, .pm (.sl c1)), (1, .one (.int .i64))] (.n .leaf (.l [(0, .pm (.sl c1)), (1, .one (.int .i64)), (5, .one (.int .i64))] (.n .leaf (.n (.j [(0, .pm (.sl c1)), (1, .one (.int .i64)), (5, .one (.int .i64))] .leaf .leaf) .leaf)))) .leaf))
noncomputable def e13 : List Ct := [C34]
theorem k13 (k : Nat) (x : g13.In) : evFn tt e13 k Try.f13 [0] h13 g13 x = C13.run k x := by kernel_rfl
theorem S13 : SoundC Try.prog C13 := sndK (fn := Try.f13) ttOk (eC S34 eN) (by kernel_rfl) (by kernel_rfl) (by kernel_rfl) (by kernel_rfl) k13
def g14 : Sg := ⟨[(.imm, (.sl c1)), (.imm, (.int .i64))], [(.imm, (.int .i64))]⟩
noncomputable def C14 : Ct := ⟨14, g14, fun k x => VF.laws_heldEntryS k x.1 x.2.1⟩
def h14 : HT := (.n .leaf (.j [(1, .one (.int .i64))] (.n .leaf (.l [(1, .one (.int .i64)), (5, .one (.int .i64))] .leaf)) .leaf))
noncomputable def e14 : List Ct := [C34]
theorem k14 (k : Nat) (x : g14.In) : evFn tt e14 k Try.f14 [0] h14 g14 x = C14.run k x := by kernel_rfl
theorem S14 : SoundC Try.prog C14 := sndK (fn := Try.f14) ttOk (eC S34 eN) (by kernel_rfl) (by kernel_rfl) (by kernel_rfl) (by kernel_rfl) k14
def g3 : Sg := ⟨[(.imm, (.sl c0)), (.imm, (.int .i64)), (.imm, (.int .i64))], [(.imm, .bool)]⟩
noncomputable def C3 : Ct := ⟨3, g3, fun k x => VF.laws_FnExactFirmDealings k x.1 x.2.1 x.2.2.1⟩
def h3 : HT := (.n .leaf (.n .leaf (.n .leaf (.n .leaf (.n .leaf (.n .leaf (.n .leaf (.n .leaf (.n .leaf (.n .leaf (.n .leaf (.j [(8, .one (.row true c1)), (10, .one (.row true c1))] .leaf .leaf))))))))))))
noncomputable def e3 : List Ct := [C6, C7, C8, C9, C10, C11, C12, C13, C14]
theorem k3 (k : Nat) (x : g3.In) : evFn tt e3 k Try.f3 [0, 1, 2] h3 g3 x = C3.run k x := by kernel_rfl
theorem S3 : SoundC Try.prog C3 := sndK (fn := Try.f3) ttOk (eC S6 (eC S7 (eC S8 (eC S9 (eC S10 (eC S11 (eC S12 (eC S13 (eC S14 eN))))))))) (by kernel_rfl) (by kernel_rfl) (by kernel_rfl) (by kernel_rfl) k3
def g47 : Sg := ⟨[(.imm, c1), (.imm, (.int .i64))], [(.imm, (.int .i64))]⟩
noncomputable def C47 : Ct := ⟨47, g47, fun k x => VF.laws_szEntry k x.1 x.2.1⟩
def h47 : HT := .leaf
noncomputable def e47 : List Ct := []
theorem k47 (k : Nat) (x : g47.In) : evFn tt e47 k Try.f47 [0] h47 g47 x = C47.run k x := by kernel_rfl
theorem S47 : SoundC Try.prog C47 := sndK (fn := Try.f47) ttOk eN (by kernel_rfl) (by kernel_rfl) (by kernel_rfl) (by kernel_rfl) k47
def g35 : Sg := ⟨[(.imm, (.sl c1)), (.imm, (.int .i64))], [(.imm, (.int .i64))]⟩
noncomputable def C35 : Ct := ⟨35, g35, fun k x => VF.laws_szEntryS k x.1 x.2.1⟩
def h35 : HT := (.n .leaf (.n .leaf (.n .leaf (.j [(1, .one (.int .i64))] (.n .leaf (.l [(1, .one (.int .i64)), (5, .one (.int .i64))] .leaf)) .leaf))))
noncomputable def e35 : List Ct := [C47]
theorem k35 (k : Nat) (x : g35.In) : evFn tt e35 k Try.f35 [0] h35 g35 x = C35.run k x := by kernel_rfl
theorem S35 : SoundC Try.prog C35 := sndK (fn := Try.f35) ttOk (eC S47 eN) (by kernel_rfl) (by kernel_rfl) (by kernel_rfl) (by kernel_rfl) k35
def g15 : Sg := ⟨[(.imm, (.sl (.sl c1))), (.imm, (.int .i64))], [(.imm, (.int .i64))]⟩
noncomputable def C15 : Ct := ⟨15, g15, fun k x => VF.laws_szEntrySS k x.1 x.2.1⟩
def h15 : HT := (.n .leaf (.n .leaf (.n .leaf (.j [(1, .one (.int .i64))] (.n .leaf (.l [(1, .one (.int .i64)), (5, .one (.int .i64))] .leaf)) .leaf))))
noncomputable def e15 : List Ct := [C35]
theorem k15 (k : Nat) (x : g15.In) : evFn tt e15 k Try.f15 [0] h15 g15 x = C15.run k x := by kernel_rfl
theorem S15 : SoundC Try.prog C15 := sndK (fn := Try.f15) ttOk (eC S35 eN) (by kernel_rfl) (by kernel_rfl) (by kernel_rfl) (by kernel_rfl) k15
def g48 : Sg := ⟨[(.imm, .str)], [(.imm, .bool)]⟩
noncomputable def C48 : Ct := ⟨48, g48, fun k x => VF.spec_IsCode k x.1⟩
def h48 : HT := (.n .leaf (.j [] (.n .leaf (.l [(3, .one (.int .i64))] (.n .leaf (.j [(3, .one (.int .i64))] (.j [(3, .one (.int .i64)), (4, .one (.bool))] .leaf .leaf) .leaf)))) .leaf))
noncomputable def e48 : List Ct := []
theorem k48 (k : Nat) (x : g48.In) : evFn tt e48 k Try.f48 [0] h48 g48 x = C48.run k x := by kernel_rfl
theorem S48 : SoundC Try.prog C48 := sndK (fn := Try.f48) ttOk eN (by kernel_rfl) (by kernel_rfl) (by kernel_rfl) (by kernel_rfl) k48
def g36 : Sg := ⟨[(.imm, (.sl c1))], [(.imm, .bool)]⟩
noncomputable def C36 : Ct := ⟨36, g36, fun k x => VF.spec_IsTrial k x.1⟩
def h36 : HT := (.n .leaf (.n .leaf (.j [(3, .one (.int .i64))] (.n .leaf (.l [(3, .one (.int .i64)), (4, .one (.int .i64))] (.n .leaf (.j [(3, .one (.int .i64)), (4, .one (.int .i64))] (.j [(3, .one (.int .i64)), (4, .one (.int .i64))] .leaf .leaf) .leaf)))) .leaf)))
noncomputable def e36 : List Ct := [C44, C48]
theorem k36 (k : Nat) (x : g36.In) : evFn tt e36 k Try.f36 [0] h36 g36 x = C36.run k x := by kernel_rfl
theorem S36 : SoundC Try.prog C36 := sndK (fn := Try.f36) ttOk (eC S44 (eC S48 eN)) (by kernel_rfl) (by kernel_rfl) (by kernel_rfl) (by kernel_rfl) k36
def g16 : Sg := ⟨[(.imm, (.sl (.sl c1)))], [(.own true, (.sl c1)), (.imm, .bool)]⟩
noncomputable def C16 : Ct := ⟨16, g16, fun k x => VF.spec_JoinTrials k x.1⟩
def h16 : HT := (.n .leaf (.n .leaf (.j [(4, .one (.row true c1))] (.n .leaf (.l [(4, .one (.row true c1)), (5, .one (.int .i64))] (.n .leaf (.j [(4, .one (.row true c1)), (5, .one (.int .i64))] (.n .leaf (.n .leaf (.l [(4, .one (.row true c1)), (5, .one (.int .i64)), (6, .one (.int .i64))] .leaf))) .leaf)))) .leaf)))
noncomputable def e16 : List Ct := [C28, C36]
theorem k16 (k : Nat) (x : g16.In) : evFn tt e16 k Try.f16 [0] h16 g16 x = C16.run k x := by kernel_rfl
theorem S16 : SoundC Try.prog C16 := sndK (fn := Try.f16) ttOk (eC S28 (eC S36 eN)) (by kernel_rfl) (by kernel_rfl) (by kernel_rfl) (by kernel_rfl) k16
def g49 : Sg := ⟨[(.imm, c1)], [(.imm, c1)]⟩
noncomputable def C49 : Ct := ⟨49, g49, fun k x => VF.laws_toEntry k x.1⟩
def h49 : HT := .leaf
noncomputable def e49 : List Ct := []
theorem k49 (k : Nat) (x : g49.In) : evFn tt e49 k Try.f49 [0] h49 g49 x = C49.run k x := by kernel_rfl
theorem S49 : SoundC Try.prog C49 := sndK (fn := Try.f49) ttOk eN (by kernel_rfl) (by kernel_rfl) (by kernel_rfl) (by kernel_rfl) k49
def g37 : Sg := ⟨[(.imm, (.sl c1))], [(.own true, (.sl c1))]⟩
noncomputable def C37 : Ct := ⟨37, g37, fun k x => VF.laws_toEntryS k x.1⟩
def h37 : HT := (.n .leaf (.n .leaf (.j [(3, .one (.row true c1))] (.n .leaf (.l [(3, .one (.row true c1)), (4, .one (.int .i64))] .leaf)) .leaf)))
noncomputable def e37 : List Ct := [C49]
theorem k37 (k : Nat) (x : g37.In) : evFn tt e37 k Try.f37 [0] h37 g37 x = C37.run k x := by kernel_rfl
theorem S37 : SoundC Try.prog C37 := sndK (fn := Try.f37) ttOk (eC S49 eN) (by kernel_rfl) (by kernel_rfl) (by kernel_rfl) (by kernel_rfl) k37
def g17 : Sg := ⟨[(.imm, (.sl (.sl c1)))], [(.own true, (.sl (.sl c1)))]⟩
noncomputable def C17 : Ct := ⟨17, g17, fun k x => VF.laws_toEntrySS k x.1⟩
def h17 : HT := (.n .leaf (.n .leaf (.j [(3, .one (.row true (.sl c1)))] (.n .leaf (.l [(3, .one (.row true (.sl c1))), (4, .one (.int .i64))] .leaf)) .leaf)))
noncomputable def e17 : List Ct := [C37]
theorem k17 (k : Nat) (x : g17.In) : evFn tt e17 k Try.f17 [0] h17 g17 x = C17.run k x := by kernel_rfl
theorem S17 : SoundC Try.prog C17 := sndK (fn := Try.f17) ttOk (eC S37 eN) (by kernel_rfl) (by kernel_rfl) (by kernel_rfl) (by kernel_rfl) k17
def g50 : Sg := ⟨[(.imm, .str)], [(.imm, .bool)]⟩
noncomputable def C50 : Ct := ⟨50, g50, fun k x => VF.impl_IsCode k x.1⟩
def h50 : HT := (.n .leaf (.j [] (.n .leaf (.l [(3, .one (.int .i64))] (.n .leaf (.j [(3, .one (.int .i64))] (.j [(3, .one (.int .i64)), (4, .one (.bool))] .leaf .leaf) .leaf)))) .leaf))
noncomputable def e50 : List Ct := []
theorem k50 (k : Nat) (x : g50.In) : evFn tt e50 k Try.f50 [0] h50 g50 x = C50.run k x := by kernel_rfl
theorem S50 : SoundC Try.prog C50 := sndK (fn := Try.f50) ttOk eN (by kernel_rfl) (by kernel_rfl) (by kernel_rfl) (by kernel_rfl) k50
def g38 : Sg := ⟨[(.imm, (.sl c1))], [(.imm, .bool)]⟩
noncomputable def C38 : Ct := ⟨38, g38, fun k x => VF.impl_IsTrial k x.1⟩
def h38 : HT := (.n .leaf (.n .leaf (.j [(3, .one (.int .i64))] (.n .leaf (.l [(3, .one (.int .i64)), (6, .one (.sl c1)), (7, .one (.int .i64)), (8, .one (.int .i64))] (.n .leaf (.n .leaf (.n (.n .leaf (.j [(3, .one (.int .i64)), (5, .var [.str, .int .i64]), (6, .one (.sl c1)), (7, .one (.int .i64)), (8, .one (.int .i64))] .leaf .leaf)) .leaf))))) .leaf)))
noncomputable def e38 : List Ct := [C45, C50]
theorem k38 (k : Nat) (x : g38.In) : evFn tt e38 k Try.f38 [0] h38 g38 x = C38.run k x := by kernel_rfl
theorem S38 : SoundC Try.prog C38 := sndK (fn := Try.f38) ttOk (eC S45 (eC S50 eN)) (by kernel_rfl) (by kernel_rfl) (by kernel_rfl) (by kernel_rfl) k38
def g18 : Sg := ⟨[(.imm, (.sl (.sl c1)))], [(.own true, (.sl c1)), (.imm, .bool)]⟩
noncomputable def C18 : Ct := ⟨18, g18, fun k x => VF.impl_JoinTrials k x.1⟩
def h18 : HT := (.n .leaf (.n .leaf (.n .leaf (.j [(4, .one (.row true c1))] (.n .leaf (.l [(4, .one (.row true c1)), (11, .one (.sl (.sl c1))), (12, .one (.int .i64)), (13, .one (.int .i64))] .leaf)) .leaf))))
noncomputable def e18 : List Ct := [C31, C38]
theorem k18 (k : Nat) (x : g18.In) : evFn tt e18 k Try.f18 [0] h18 g18 x = C18.run k x := by kernel_rfl
theorem S18 : SoundC Try.prog C18 := sndK (fn := Try.f18) ttOk (eC S31 (eC S38 eN)) (by kernel_rfl) (by kernel_rfl) (by kernel_rfl) (by kernel_rfl) k18
def g19 : Sg := ⟨[(.imm, (.sl (.sl c1))), (.imm, (.sl (.sl c1)))], [(.imm, .bool)]⟩
noncomputable def C19 : Ct := ⟨19, g19, fun k x => VF.laws_eqEntrySS k x.1 x.2.1⟩
def h19 : HT := (.n .leaf (.n .leaf (.j [] (.n .leaf (.l [(5, .one (.int .i64))] .leaf)) .leaf)))
noncomputable def e19 : List Ct := [C10]
theorem k19 (k : Nat) (x : g19.In) : evFn tt e19 k Try.f19 [0, 1] h19 g19 x = C19.run k x := by kernel_rfl
theorem S19 : SoundC Try.prog C19 := sndK (fn := Try.f19) ttOk (eC S10 eN) (by kernel_rfl) (by kernel_rfl) (by kernel_rfl) (by kernel_rfl) k19
def g20 : Sg := ⟨[(.mut, (.sl (.sl c1))), (.imm, (.int .i64))], [(.imm, (.int .i64))]⟩
noncomputable def C20 : Ct := ⟨20, g20, fun k x => VF.laws_markEntrySS k x.1 x.2.1⟩
def h20 : HT := (.n .leaf (.j [(0, .pm (.sl (.sl c1))), (1, .one (.int .i64))] (.n .leaf (.l [(0, .pm (.sl (.sl c1))), (1, .one (.int .i64)), (5, .one (.int .i64))] .leaf)) .leaf))
noncomputable def e20 : List Ct := [C13]
theorem k20 (k : Nat) (x : g20.In) : evFn tt e20 k Try.f20 [0] h20 g20 x = C20.run k x := by kernel_rfl
theorem S20 : SoundC Try.prog C20 := sndK (fn := Try.f20) ttOk (eC S13 eN) (by kernel_rfl) (by kernel_rfl) (by kernel_rfl) (by kernel_rfl) k20
def g4 : Sg := ⟨[(.imm, (.sl (.sl c1)))], [(.imm, .bool)]⟩
noncomputable def C4 : Ct := ⟨4, g4, fun k x => VF.laws_FnExactJoinTrials k x.1⟩
def h4 : HT := (.n .leaf (.n .leaf (.n .leaf (.n .leaf (.n .leaf (.n .leaf (.n .leaf (.j [(4, .one (.row true c1)), (5, .one (.bool)), (6, .one (.row true (.sl c1))), (7, .one (.row true c1)), (8, .one (.bool))] .leaf (.n .leaf (.n .leaf (.n .leaf (.j [(4, .one (.row true c1)), (5, .one (.bool)), (7, .one (.row true c1))] .leaf (.n .leaf (.n .leaf (.n .leaf (.n .leaf (.n .leaf (.n .leaf (.n .leaf (.j [(7, .one (.row true c1)), (10, .one (.int .i64))] .leaf .leaf))))))))))))))))))))
noncomputable def e4 : List Ct := [C10, C13, C14, C15, C16, C17, C18, C19, C20]
theorem k4 (k : Nat) (x : g4.In) : evFn tt e4 k Try.f4 [0] h4 g4 x = C4.run k x := by kernel_rfl
theorem S4 : SoundC Try.prog C4 := sndK (fn := Try.f4) ttOk (eC S10 (eC S13 (eC S14 (eC S15 (eC S16 (eC S17 (eC S18 (eC S19 (eC S20 eN))))))))) (by kernel_rfl) (by kernel_rfl) (by kernel_rfl) (by kernel_rfl) k4
def g39 : Sg := ⟨[(.imm, c2), (.imm, (.int .i64))], [(.imm, (.int .i64))]⟩
noncomputable def C39 : Ct := ⟨39, g39, fun k x => VF.laws_szDocument k x.1 x.2.1⟩
def h39 : HT := .leaf
noncomputable def e39 : List Ct := [C35]
theorem k39 (k : Nat) (x : g39.In) : evFn tt e39 k Try.f39 [0] h39 g39 x = C39.run k x := by kernel_rfl
theorem S39 : SoundC Try.prog C39 := sndK (fn := Try.f39) ttOk (eC S35 eN) (by kernel_rfl) (by kernel_rfl) (by kernel_rfl) (by kernel_rfl) k39
def g21 : Sg := ⟨[(.imm, (.sl c2)), (.imm, (.int .i64))], [(.imm, (.int .i64))]⟩
noncomputable def C21 : Ct := ⟨21, g21, fun k x => VF.laws_szDocumentS k x.1 x.2.1⟩
def h21 : HT := (.n .leaf (.n .leaf (.n .leaf (.j [(1, .one (.int .i64))] (.n .leaf (.l [(1, .one (.int .i64)), (5, .one (.int .i64))] .leaf)) .leaf))))
noncomputable def e21 : List Ct := [C39]
theorem k21 (k : Nat) (x : g21.In) : evFn tt e21 k Try.f21 [0] h21 g21 x = C21.run k x := by kernel_rfl
theorem S21 : SoundC Try.prog C21 := sndK (fn := Try.f21) ttOk (eC S39 eN) (by kernel_rfl) (by kernel_rfl) (by kernel_rfl) (by kernel_rfl) k21
def g51 : Sg := ⟨[(.imm, (.sl c1))], [(.imm, .bool)]⟩
noncomputable def C51 : Ct := ⟨51, g51, fun k x => VF.spec_AreEntries k x.1⟩
def h51 : HT := (.n .leaf (.n .leaf (.j [(3, .one (.int .i64))] (.n .leaf (.l [(3, .one (.int .i64)), (4, .one (.int .i64))] (.n .leaf (.n (.j [(3, .one (.int .i64)), (4, .one (.int .i64))] .leaf .leaf) .leaf)))) .leaf)))
noncomputable def e51 : List Ct := [C44, C48]
theorem k51 (k : Nat) (x : g51.In) : evFn tt e51 k Try.f51 [0] h51 g51 x = C51.run k x := by kernel_rfl
theorem S51 : SoundC Try.prog C51 := sndK (fn := Try.f51) ttOk (eC S44 (eC S48 eN)) (by kernel_rfl) (by kernel_rfl) (by kernel_rfl) (by kernel_rfl) k51
def g40 : Sg := ⟨[(.imm, (.sl c2))], [(.imm, .bool)]⟩
noncomputable def C40 : Ct := ⟨40, g40, fun k x => VF.spec_AreDocuments k x.1⟩
def h40 : HT := (.n .leaf (.j [] (.n .leaf (.l [(3, .one (.int .i64))] .leaf)) .leaf))
noncomputable def e40 : List Ct := [C44, C51]
theorem k40 (k : Nat) (x : g40.In) : evFn tt e40 k Try.f40 [0] h40 g40 x = C40.run k x := by kernel_rfl
theorem S40 : SoundC Try.prog C40 := sndK (fn := Try.f40) ttOk (eC S44 (eC S51 eN)) (by kernel_rfl) (by kernel_rfl) (by kernel_rfl) (by kernel_rfl) k40
def g22 : Sg := ⟨[(.imm, (.sl c2)), (.imm, (.int .i64)), (.imm, (.int .i64))], [(.own true, (.sl c1))]⟩
noncomputable def C22 : Ct := ⟨22, g22, fun k x => VF.spec_MovementOf k x.1 x.2.1 x.2.2.1⟩
def h22 : HT := (.n .leaf (.n .leaf (.j [(7, .one (.row true c1))] (.n .leaf (.l [(7, .one (.row true c1)), (8, .one (.int .i64))] (.n .leaf (.j [(7, .one (.row true c1)), (8, .one (.int .i64))] (.n .leaf (.l [(7, .one (.row true c1)), (8, .one (.int .i64)), (9, .one (.int .i64))] (.j [(7, .one (.row true c1)), (8, .one (.int .i64)), (9, .one (.int .i64))] .leaf .leaf))) .leaf)))) .leaf)))
noncomputable def e22 : List Ct := [C28, C40]
theorem k22 (k : Nat) (x : g22.In) : evFn tt e22 k Try.f22 [0, 1, 2] h22 g22 x = C22.run k x := by kernel_rfl
theorem S22 : SoundC Try.prog C22 := sndK (fn := Try.f22) ttOk (eC S28 (eC S40 eN)) (by kernel_rfl) (by kernel_rfl) (by kernel_rfl) (by kernel_rfl) k22
def g41 : Sg := ⟨[(.imm, c2)], [(.own true, c2)]⟩
noncomputable def C41 : Ct := ⟨41, g41, fun k x => VF.laws_toDocument k x.1⟩
def h41 : HT := .leaf
noncomputable def e41 : List Ct := [C37]
theorem k41 (k : Nat) (x : g41.In) : evFn tt e41 k Try.f41 [0] h41 g41 x = C41.run k x := by kernel_rfl
theorem S41 : SoundC Try.prog C41 := sndK (fn := Try.f41) ttOk (eC S37 eN) (by kernel_rfl) (by kernel_rfl) (by kernel_rfl) (by kernel_rfl) k41
def g23 : Sg := ⟨[(.imm, (.sl c2))], [(.own true, (.sl c2))]⟩
noncomputable def C23 : Ct := ⟨23, g23, fun k x => VF.laws_toDocumentS k x.1⟩
def h23 : HT := (.n .leaf (.n .leaf (.j [(3, .one (.row true c2))] (.n .leaf (.l [(3, .one (.row true c2)), (4, .one (.int .i64))] .leaf)) .leaf)))
noncomputable def e23 : List Ct := [C41]
theorem k23 (k : Nat) (x : g23.In) : evFn tt e23 k Try.f23 [0] h23 g23 x = C23.run k x := by kernel_rfl
theorem S23 : SoundC Try.prog C23 := sndK (fn := Try.f23) ttOk (eC S41 eN) (by kernel_rfl) (by kernel_rfl) (by kernel_rfl) (by kernel_rfl) k23
def g55 : Sg := ⟨[(.imm, (.sl c1))], [(.imm, .bool)]⟩
noncomputable def C55 : Ct := ⟨55, g55, fun k x => VF.impl_AreEntries k x.1⟩
def h55 : HT := (.n .leaf (.n .leaf (.j [(3, .one (.int .i64))] (.n .leaf (.l [(3, .one (.int .i64)), (6, .one (.sl c1)), (7, .one (.int .i64)), (8, .one (.int .i64))] .leaf)) .leaf)))
noncomputable def e55 : List Ct := [C45, C50]
theorem k55 (k : Nat) (x : g55.In) : evFn tt e55 k Try.f55 [0] h55 g55 x = C55.run k x := by kernel_rfl
theorem S55 : SoundC Try.prog C55 := sndK (fn := Try.f55) ttOk (eC S45 (eC S50 eN)) (by kernel_rfl) (by kernel_rfl) (by kernel_rfl) (by kernel_rfl) k55
def g52 : Sg := ⟨[(.imm, (.sl c2))], [(.imm, .bool)]⟩
noncomputable def C52 : Ct := ⟨52, g52, fun k x => VF.impl_AreDocuments k x.1⟩
def h52 : HT := (.n .leaf (.j [] (.n .leaf (.l [(5, .one (.sl c2)), (6, .one (.int .i64)), (7, .one (.int .i64))] .leaf)) .leaf))
noncomputable def e52 : List Ct := [C45, C55]
theorem k52 (k : Nat) (x : g52.In) : evFn tt e52 k Try.f52 [0] h52 g52 x = C52.run k x := by kernel_rfl
theorem S52 : SoundC Try.prog C52 := sndK (fn := Try.f52) ttOk (eC S45 (eC S55 eN)) (by kernel_rfl) (by kernel_rfl) (by kernel_rfl) (by kernel_rfl) k52
def g42 : Sg := ⟨[(.imm, (.sl c2)), (.imm, (.int .i64)), (.imm, (.int .i64))], [(.own true, (.sl c1))]⟩
noncomputable def C42 : Ct := ⟨42, g42, fun k x => VF.impl_movement k x.1 x.2.1 x.2.2.1⟩
def h42 : HT := (.n .leaf (.n .leaf (.n .leaf (.j [(7, .one (.row true c1))] (.n .leaf (.l [(7, .one (.row true c1)), (15, .one (.sl c2)), (16, .one (.int .i64)), (17, .one (.int .i64))] .leaf)) .leaf))))
noncomputable def e42 : List Ct := [C31, C52]
theorem k42 (k : Nat) (x : g42.In) : evFn tt e42 k Try.f42 [0, 1, 2] h42 g42 x = C42.run k x := by kernel_rfl
theorem S42 : SoundC Try.prog C42 := sndK (fn := Try.f42) ttOk (eC S31 (eC S52 eN)) (by kernel_rfl) (by kernel_rfl) (by kernel_rfl) (by kernel_rfl) k42
def g24 : Sg := ⟨[(.imm, (.sl c2)), (.imm, (.int .i64)), (.imm, (.int .i64))], [(.own true, (.sl c1))]⟩
noncomputable def C24 : Ct := ⟨24, g24, fun k x => VF.impl_MovementOf k x.1 x.2.1 x.2.2.1⟩
def h24 : HT := .leaf
noncomputable def e24 : List Ct := [C42]
theorem k24 (k : Nat) (x : g24.In) : evFn tt e24 k Try.f24 [0, 1, 2] h24 g24 x = C24.run k x := by kernel_rfl
theorem S24 : SoundC Try.prog C24 := sndK (fn := Try.f24) ttOk (eC S42 eN) (by kernel_rfl) (by kernel_rfl) (by kernel_rfl) (by kernel_rfl) k24
def g43 : Sg := ⟨[(.imm, c2), (.imm, c2)], [(.imm, .bool)]⟩
noncomputable def C43 : Ct := ⟨43, g43, fun k x => VF.laws_eqDocument k x.1 x.2.1⟩
def h43 : HT := .leaf
noncomputable def e43 : List Ct := [C10]
theorem k43 (k : Nat) (x : g43.In) : evFn tt e43 k Try.f43 [0, 1] h43 g43 x = C43.run k x := by kernel_rfl
theorem S43 : SoundC Try.prog C43 := sndK (fn := Try.f43) ttOk (eC S10 eN) (by kernel_rfl) (by kernel_rfl) (by kernel_rfl) (by kernel_rfl) k43
def g25 : Sg := ⟨[(.imm, (.sl c2)), (.imm, (.sl c2))], [(.imm, .bool)]⟩
noncomputable def C25 : Ct := ⟨25, g25, fun k x => VF.laws_eqDocumentS k x.1 x.2.1⟩
def h25 : HT := (.n .leaf (.n .leaf (.j [] (.n .leaf (.l [(5, .one (.int .i64))] .leaf)) .leaf)))
noncomputable def e25 : List Ct := [C43]
theorem k25 (k : Nat) (x : g25.In) : evFn tt e25 k Try.f25 [0, 1] h25 g25 x = C25.run k x := by kernel_rfl
theorem S25 : SoundC Try.prog C25 := sndK (fn := Try.f25) ttOk (eC S43 eN) (by kernel_rfl) (by kernel_rfl) (by kernel_rfl) (by kernel_rfl) k25
def g26 : Sg := ⟨[(.mut, (.sl c2)), (.imm, (.int .i64))], [(.imm, (.int .i64))]⟩
noncomputable def C26 : Ct := ⟨26, g26, fun k x => VF.laws_markDocumentS k x.1 x.2.1⟩
def h26 : HT := (.n .leaf (.j [(0, .pm (.sl c2)), (1, .one (.int .i64))] (.n .leaf (.l [(0, .pm (.sl c2)), (1, .one (.int .i64)), (5, .one (.int .i64))] (.n .leaf (.n (.j [(0, .pm (.sl c2)), (1, .one (.int .i64)), (5, .one (.int .i64))] .leaf (.n .leaf (.j [(0, .pm (.sl c2)), (1, .one (.int .i64)), (5, .one (.int .i64))] .leaf .leaf))) .leaf)))) .leaf))
noncomputable def e26 : List Ct := [C13]
theorem k26 (k : Nat) (x : g26.In) : evFn tt e26 k Try.f26 [0] h26 g26 x = C26.run k x := by kernel_rfl
theorem S26 : SoundC Try.prog C26 := sndK (fn := Try.f26) ttOk (eC S13 eN) (by kernel_rfl) (by kernel_rfl) (by kernel_rfl) (by kernel_rfl) k26
def g5 : Sg := ⟨[(.imm, (.sl c2)), (.imm, (.int .i64)), (.imm, (.int .i64))], [(.imm, .bool)]⟩
noncomputable def C5 : Ct := ⟨5, g5, fun k x => VF.laws_FnExactMovementOf k x.1 x.2.1 x.2.2.1⟩
def h5 : HT := (.n .leaf (.n .leaf (.n .leaf (.n .leaf (.n .leaf (.n .leaf (.n .leaf (.n .leaf (.n .leaf (.n .leaf (.n .leaf (.j [(8, .one (.row true c1)), (10, .one (.row true c1))] .leaf .leaf))))))))))))
noncomputable def e5 : List Ct := [C10, C13, C14, C21, C22, C23, C24, C25, C26]
theorem k5 (k : Nat) (x : g5.In) : evFn tt e5 k Try.f5 [0, 1, 2] h5 g5 x = C5.run k x := by kernel_rfl
theorem S5 : SoundC Try.prog C5 := sndK (fn := Try.f5) ttOk (eC S10 (eC S13 (eC S14 (eC S21 (eC S22 (eC S23 (eC S24 (eC S25 (eC S26 eN))))))))) (by kernel_rfl) (by kernel_rfl) (by kernel_rfl) (by kernel_rfl) k5
