/- Contracts and plain laws, put together: HeapPlaysK4, HeapPlaysK5, HeapPlaysK8, HeapPlaysK9. -/
import Derived.Test.YtbnobjlphmkgeaaGreatDoorHeapPlaysFrameM6
/- HeapPlays: the case 4 of the switch. -/
namespace Go.Proofs.YtbnobjlphmkgeaaGreatDoor
open Go.RowKit Go.Maps Go.ChangeMaps

set_option maxRecDepth 1000000 in
set_option maxHeartbeats 8000000 in
theorem hp_case4 (Q : Exit → Act → World → Prop) (u1 u2 u3 u4 u5 u8 u9 u10 u13 u14 u15 u16 u17 u18 u19 u20 u21 u22 u23 u24 u25 u26 u27 u28 u29 u30 u31 u32 u33 u34 u35 u36 u37 u38 u39 u40 u41 u42 u43 u44 u45 u46 u47 u48 u49 u50 u51 u52 u53 u54 u55 u56 u57 u58 u59 u60 u61 u62 u63 u64 u65 u66 u67 u68 u69 u70 u71 u72 u73 u74 u75 u76 u77 u78 u79 u80 u81 u82 u83 u84 u86 u87 u88 u89 u90 u91 u92 u93 u94 u95 u96 u97 u98 u99 u100 u101 u102 u103 u104 u105 u106 u107 u108 u109 u110 u111 u112 u113 u114 u115 u116 u117 u118 u119 u120 u121 u122 u123 u124 u125 u126 u127 u128 u129 u130 u131 u132 u133 u134 u135 u136 u137 u138 u139 u140 u141 u142 u143 u144 u145 u146 u147 u148 u149 u150 u151 u152 u153 u154 u155 u156 u157 u158 u159 u160 u161 u162 u163 u164 u165 u166 u167 u168 u169 u170 u171 u172 u173 u174 u175 u176 u177 u178 u179 u180 u181 u182 u183 u184 u185 u186 u187 u188 u189 u190 u191 u192 u193 u194 u195 u196 u197 u198 u199 u200 u201 u202 u203 u204 u205 u206 u207 u208 u209 u210 u211 u212 u213 u214 u215 u216 u217 u218 u219 u220 u221 u222 u223 u224 u225 u226 u227 u228 u229 u230 u231 u232 u233 u234 u235 u236 u237 u238 u239 u240 u241 u242 u243 u244 u245 u246 u247 u248 u249 u250 u251 u252 u253 u254 u255 u256 u257 u258 u259 u260 u261 u262 u263 u264 u265 u266 u267 u268 u269 u270 u271 u272 u273 u274 u275 u276 u277 u278 u279 u280 u281 u282 u283 u284 u285 u286 u287 u288 u289 u290 u291 u292 u293 u294 u295 u296 u297 u298 u299 u300 u301 u302 u303 u304 u305 u306 u307 u308 u309 u310 u311 u312 u313 u314 u315 u316 u317 u318 u319 u320 u321 u322 u323 u324 u325 u326 u327 u328 u329 u330 u331 u332 u333 u334 u335 u336 u337 u338 u339 u340 u341 u342 u343 u344 u345 u346 u347 u348 u349 u350 u351 u352 u353 u354 u355 u356 u357 u358 u359 u360 u361 u362 u363 u364 u365 u366 u367 u368 u369 u370 u371 u372 u373 : Value) (w W1 : World) (F : Nat → Prop) (h gb ob cb NL bx : Nat) (l : Bytes) (what handle at_ len : Int) (name : Bytes) (bA : Option Addr) (bc : Nat) (body : Bytes) (HTY : Hidden (HasType w)) (hcb : NL ≤ cb) (hl0 : 0 < l.length) (hNb : 288 ≤ NL ∧ NL ≤ 6400) (HP1 : Hidden (Hp w W1 F h l)) (HRB : Hidden (RdO W1 F gb ob l)) (HLL : Hidden (l.length = NL ∧ Good l)) (H6 : Hidden (Six6 W1 bx (.int .i64 what) (.int .i64 handle) (.int .i64 at_) (.int .i64 len) (sv name) (.slice bA body.length bc) ∧ bx < W1.heap.size)) (HBO : Hidden (body.length ≤ bc ∧ bc ≤ 140737488351232 ∧ name.length ≤ 140737488351232 ∧ Rd W1 bA body)) (HLB : Hidden (-9223372036854775808 ≤ len ∧ len ≤ 9223372036854775807))
    (HER : Hidden (∀ (E : Nat) W, Below w.heap.size w W → Calls Tryz.prog 10 #[errV E, .int .i64 (E : Int)] W fun e w' => e = .returned (.bool true) ∧ Below W.heap.size W w')) (HER0 : Hidden (∀ W, Below w.heap.size w W → Calls Tryz.prog 10 #[.nilIface, .int .i64 0] W fun e w' => e = .returned (.bool true) ∧ Below W.heap.size W w')) (z4 : what = 4)
    (hfin : ∀ (x13 x14 x15 x16 x17 x18 x19 x20 x21 x22 x23 x24 x25 x26 x27 x28 x29 x30 x31 x32 x33 x34 x35 x36 x37 x38 x39 x40 x41 x42 x43 x44 x86 x87 x88 x89 x90 x91 x92 x93 x94 x95 x96 x97 x98 x99 x100 x101 x102 x103 x104 x105 x106 x107 x108 x109 x110 x111 x112 x113 x114 x115 x116 x117 x118 x119 x120 x121 x122 x123 x124 x125 x126 x127 x128 x129 x130 x131 x132 x133 x134 x135 x136 x137 x138 x139 x140 x141 x142 x143 x144 x145 x146 x147 x148 x149 x150 x151 x152 x153 x154 x155 x156 x157 x158 x159 x160 x161 x162 x163 x164 x165 x166 x167 x168 x169 x170 x171 x172 x173 x174 x175 x176 x177 x178 x179 x180 x181 x182 x183 x184 x185 x186 x187 x188 x189 x190 x191 x192 x193 x194 x195 x196 x197 x198 x199 x200 x201 x202 x203 x204 x205 x206 x207 x208 x209 x210 x211 x212 x213 x214 x215 x216 x217 x218 x219 x220 x221 x222 x223 x224 x225 x226 x227 x228 x229 x230 x231 x232 x233 x234 x235 x236 x237 x238 x239 x240 x241 x242 x243 x244 x245 x246 x247 x248 x249 x250 x251 x252 x253 x254 x255 x256 x257 x258 x259 x260 x261 x262 x263 x264 x265 x266 x267 x268 x269 x270 x271 x272 x273 x274 x275 x276 x277 x278 x279 x280 x281 x282 x283 x284 x285 x286 x287 x288 x289 x290 x291 x292 x293 x294 x295 x296 x297 x298 x299 x300 x301 x302 x303 x304 x305 x306 x307 x308 x309 x310 x311 x312 x313 x314 x315 x316 x317 x318 x319 x320 x321 x322 x323 x324 x325 x326 x327 x328 x329 x330 x331 x332 x333 x334 x335 x336 x337 x338 x339 x340 x341 x342 x343 x344 x345 x346 x347 x348 x349 x350 x351 x352 x353 x354 x355 x356 x357 x358 x359 x360 : Value) (E : Nat) (F2 : Nat → Prop) (l2 : Bytes) (nv : Value) (wx : World), Hidden (HpCut w wx F2 h gb ob NL E l l2 nv) → Q .normal ⟨#[.slice (some ⟨gb, ob, none⟩) NL cb, u1, u2, u3, u4, u5, .int .i64 (E : Int), .pointer (some ⟨h, 0, none⟩), u8, .bool true, u10, .pointer (some ⟨bx, 0, none⟩), nv, x13, x14, x15, x16, x17, x18, x19, x20, x21, x22, x23, x24, x25, x26, x27, x28, x29, x30, x31, x32, x33, x34, x35, x36, x37, x38, x39, x40, x41, x42, x43, x44, u45, u46, u47, u48, u49, u50, u51, u52, u53, u54, u55, u56, u57, u58, u59, u60, u61, u62, u63, u64, u65, u66, u67, u68, u69, u70, u71, u72, u73, u74, u75, u76, u77, u78, u79, u80, u81, u82, u83, u84, .int .i64 what, x86, x87, x88, x89, x90, x91, x92, x93, x94, x95, x96, x97, x98, x99, x100, x101, x102, x103, x104, x105, x106, x107, x108, x109, x110, x111, x112, x113, x114, x115, x116, x117, x118, x119, x120, x121, x122, x123, x124, x125, x126, x127, x128, x129, x130, x131, x132, x133, x134, x135, x136, x137, x138, x139, x140, x141, x142, x143, x144, x145, x146, x147, x148, x149, x150, x151, x152, x153, x154, x155, x156, x157, x158, x159, x160, x161, x162, x163, x164, x165, x166, x167, x168, x169, x170, x171, x172, x173, x174, x175, x176, x177, x178, x179, x180, x181, x182, x183, x184, x185, x186, x187, x188, x189, x190, x191, x192, x193, x194, x195, x196, x197, x198, x199, x200, x201, x202, x203, x204, x205, x206, x207, x208, x209, x210, x211, x212, x213, x214, x215, x216, x217, x218, x219, x220, x221, x222, x223, x224, x225, x226, x227, x228, x229, x230, x231, x232, x233, x234, x235, x236, x237, x238, x239, x240, x241, x242, x243, x244, x245, x246, x247, x248, x249, x250, x251, x252, x253, x254, x255, x256, x257, x258, x259, x260, x261, x262, x263, x264, x265, x266, x267, x268, x269, x270, x271, x272, x273, x274, x275, x276, x277, x278, x279, x280, x281, x282, x283, x284, x285, x286, x287, x288, x289, x290, x291, x292, x293, x294, x295, x296, x297, x298, x299, x300, x301, x302, x303, x304, x305, x306, x307, x308, x309, x310, x311, x312, x313, x314, x315, x316, x317, x318, x319, x320, x321, x322, x323, x324, x325, x326, x327, x328, x329, x330, x331, x332, x333, x334, x335, x336, x337, x338, x339, x340, x341, x342, x343, x344, x345, x346, x347, x348, x349, x350, x351, x352, x353, x354, x355, x356, x357, x358, x359, x360, u361, u362, u363, u364, u365, u366, u367, u368, u369, u370, u371, u372, u373], []⟩ wx) :
    Code.wp Tryz.prog hpSw Q ⟨#[.slice (some ⟨gb, ob, none⟩) NL cb, u1, u2, u3, u4, u5, .int .i64 0, .pointer (some ⟨h, 0, none⟩), u8, u9, u10, .pointer (some ⟨bx, 0, none⟩), .slice none 0 0, u13, u14, u15, u16, u17, u18, u19, u20, u21, u22, u23, u24, u25, u26, u27, u28, u29, u30, u31, u32, u33, u34, u35, u36, u37, u38, u39, u40, u41, u42, u43, u44, u45, u46, u47, u48, u49, u50, u51, u52, u53, u54, u55, u56, u57, u58, u59, u60, u61, u62, u63, u64, u65, u66, u67, u68, u69, u70, u71, u72, u73, u74, u75, u76, u77, u78, u79, u80, u81, u82, u83, u84, .int .i64 what, u86, u87, u88, u89, u90, u91, u92, u93, u94, u95, u96, u97, u98, u99, u100, u101, u102, u103, u104, u105, u106, u107, u108, u109, u110, u111, u112, u113, u114, u115, u116, u117, u118, u119, u120, u121, u122, u123, u124, u125, u126, u127, u128, u129, u130, u131, u132, u133, u134, u135, u136, u137, u138, u139, u140, u141, u142, u143, u144, u145, u146, u147, u148, u149, u150, u151, u152, u153, u154, u155, u156, u157, u158, u159, u160, u161, u162, u163, u164, u165, u166, u167, u168, u169, u170, u171, u172, u173, u174, u175, u176, u177, u178, u179, u180, u181, u182, u183, u184, u185, u186, u187, u188, u189, u190, u191, u192, u193, u194, u195, u196, u197, u198, u199, u200, u201, u202, u203, u204, u205, u206, u207, u208, u209, u210, u211, u212, u213, u214, u215, u216, u217, u218, u219, u220, u221, u222, u223, u224, u225, u226, u227, u228, u229, u230, u231, u232, u233, u234, u235, u236, u237, u238, u239, u240, u241, u242, u243, u244, u245, u246, u247, u248, u249, u250, u251, u252, u253, u254, u255, u256, u257, u258, u259, u260, u261, u262, u263, u264, u265, u266, u267, u268, u269, u270, u271, u272, u273, u274, u275, u276, u277, u278, u279, u280, u281, u282, u283, u284, u285, u286, u287, u288, u289, u290, u291, u292, u293, u294, u295, u296, u297, u298, u299, u300, u301, u302, u303, u304, u305, u306, u307, u308, u309, u310, u311, u312, u313, u314, u315, u316, u317, u318, u319, u320, u321, u322, u323, u324, u325, u326, u327, u328, u329, u330, u331, u332, u333, u334, u335, u336, u337, u338, u339, u340, u341, u342, u343, u344, u345, u346, u347, u348, u349, u350, u351, u352, u353, u354, u355, u356, u357, u358, u359, u360, u361, u362, u363, u364, u365, u366, u367, u368, u369, u370, u371, u372, u373], []⟩ W1 := by
  conv => arg 2; whnf
  obtain ⟨c0, c1, c2, c3', c4, c5⟩ := H6.out.1
  subst z4
  have HC := Hidden.mk (rset_all gb ob NL cb l name handle W1 HBO.out.2.2.1 HLL.out.1 HLL.out.2 hcb HRB.out.rd)
  clear HLB
  try dsimp only
  go_wp2_with fail
  refine HC.out.mono ?_
  rintro e w5 ⟨hb5, ⟨h0, g5, c5', rfl, hc5, hg5, hr5⟩ | ⟨h0, rfl⟩⟩
  · have HB5 := Hidden.mk hb5
    have HP5 := Hidden.mk (HP1.out.below hb5)
    have HG2 : Hidden (Good (setL l name handle) ∧ (setL l name handle).length = NL) := ⟨(stepR_set HLL.out.2 name handle).good, (stepR_set HLL.out.2 name handle).len.trans HLL.out.1⟩
    have HRD : Hidden (RdO w5 F g5 0 (setL l name handle) ∧ RdO w5 F gb ob l ∧ NL ≤ c5') := ⟨RdO.fresh HP1.out.flt hg5 hr5 (by rw [HG2.out.2]; omega), HRB.out.below hb5, hc5⟩
    have HPR := Hidden.mk (rset_any name handle HP5.out HLL.out.2 HBO.out.2.2.1)
    rw [show decide (setE l name handle = 0 ∧ (placeF l name 8).1 < 0) = decide ((placeF l name 8).1 < 0) by rw [h0]; simp] at HPR
    generalize hpb : decide ((placeF l name 8).1 < 0) = pb at *
    clear hpb
    rw [h0, errV0] at HPR
    obtain ⟨c0, c1, c2, c3', c4, c5⟩ := H6.out.1.below HB5.out H6.out.2
    clear hb5 h0 hc5 hg5 hr5 HC
    generalize setL l name handle = l2 at *
    try dsimp only
    go_wp2_with fail
    refine HPR.out.mono ?_
    rintro e w6 ⟨rfl, F6, hm6⟩
    have HF6 := Hidden.mk (hpc_ok hm6 HG2.out.1 HG2.out.2 HRD.out.2.1 HRD.out.2.2 HRD.out.1)
    clear hm6 HPR HRD HG2 HP5 HB5 c0 c1 c2 c3' c4 c5
    try dsimp only
    go_wp2_with fail
    refine (HER0.out _ HF6.out.hp.bel).mono ?_
    rintro e w7 ⟨rfl, hb7⟩
    have HF7 := Hidden.mk (HF6.out.below hb7)
    clear hb7 HF6
    try dsimp only
    go_wp2_with fail
    all_goals
      exact hfin _ _ _ _ _ _ _ _ _ _ _ _ _ _ _ _ _ _ _ _ _ _ _ _ _ _ _ _ _ _ _ _ _ _ _ _ _ _ _ _ _ _ _ _ _ _ _ _ _ _ _ _ _ _ _ _ _ _ _ _ _ _ _ _ _ _ _ _ _ _ _ _ _ _ _ _ _ _ _ _ _ _ _ _ _ _ _ _ _ _ _ _ _ _ _ _ _ _ _ _ _ _ _ _ _ _ _ _ _ _ _ _ _ _ _ _ _ _ _ _ _ _ _ _ _ _ _ _ _ _ _ _ _ _ _ _ _ _ _ _ _ _ _ _ _ _ _ _ _ _ _ _ _ _ _ _ _ _ _ _ _ _ _ _ _ _ _ _ _ _ _ _ _ _ _ _ _ _ _ _ _ _ _ _ _ _ _ _ _ _ _ _ _ _ _ _ _ _ _ _ _ _ _ _ _ _ _ _ _ _ _ _ _ _ _ _ _ _ _ _ _ _ _ _ _ _ _ _ _ _ _ _ _ _ _ _ _ _ _ _ _ _ _ _ _ _ _ _ _ _ _ _ _ _ _ _ _ _ _ _ _ _ _ _ _ _ _ _ _ _ _ _ _ _ _ _ _ _ _ _ _ _ _ _ _ _ _ _ _ _ _ _ _ _ _ _ _ _ _ _ _ _ _ _ _ _ _ 0 _ _ _ _ HF7
  · have HB5 := Hidden.mk hb5
    have HP5 := Hidden.mk (HP1.out.below hb5)
    have HPR := Hidden.mk (rset_any name handle HP5.out HLL.out.2 HBO.out.2.2.1)
    have HEQ : Hidden (setL l name handle = l) := ⟨by unfold setL; rw [if_neg h0]⟩
    rw [show decide (setE l name handle = 0 ∧ (placeF l name 8).1 < 0) = false by simp [h0]] at HPR
    have HRD := Hidden.mk (HRB.out.below hb5)
    have HZ := Hidden.mk h0
    obtain ⟨c0, c1, c2, c3', c4, c5⟩ := H6.out.1.below HB5.out H6.out.2
    clear hb5 h0 HC
    generalize setL l name handle = l2 at *
    generalize setE l name handle = E at *
    try dsimp only
    go_wp2_with fail
    refine HPR.out.mono ?_
    rintro e w6 ⟨rfl, F6, hm6⟩
    have HF6 := Hidden.mk (hpc_bad (nv := .slice none 0 0) (E := E) hm6 HEQ.out HLL.out.2 HLL.out.1 HRD.out HZ.out)
    clear hm6 HPR HRD HP5 HB5 c0 c1 c2 c3' c4 c5
    try dsimp only
    go_wp2_with fail
    refine (HER.out E _ HF6.out.hp.bel).mono ?_
    rintro e w7 ⟨rfl, hb7⟩
    have HF7 := Hidden.mk (HF6.out.below hb7)
    clear hb7 HF6
    try dsimp only
    go_wp2_with fail
    exact hfin _ _ _ _ _ _ _ _ _ _ _ _ _ _ _ _ _ _ _ _ _ _ _ _ _ _ _ _ _ _ _ _ _ _ _ _ _ _ _ _ _ _ _ _ _ _ _ _ _ _ _ _ _ _ _ _ _ _ _ _ _ _ _ _ _ _ _ _ _ _ _ _ _ _ _ _ _ _ _ _ _ _ _ _ _ _ _ _ _ _ _ _ _ _ _ _ _ _ _ _ _ _ _ _ _ _ _ _ _ _ _ _ _ _ _ _ _ _ _ _ _ _ _ _ _ _ _ _ _ _ _ _ _ _ _ _ _ _ _ _ _ _ _ _ _ _ _ _ _ _ _ _ _ _ _ _ _ _ _ _ _ _ _ _ _ _ _ _ _ _ _ _ _ _ _ _ _ _ _ _ _ _ _ _ _ _ _ _ _ _ _ _ _ _ _ _ _ _ _ _ _ _ _ _ _ _ _ _ _ _ _ _ _ _ _ _ _ _ _ _ _ _ _ _ _ _ _ _ _ _ _ _ _ _ _ _ _ _ _ _ _ _ _ _ _ _ _ _ _ _ _ _ _ _ _ _ _ _ _ _ _ _ _ _ _ _ _ _ _ _ _ _ _ _ _ _ _ _ _ _ _ _ _ _ _ _ _ _ _ _ _ _ _ _ _ _ _ _ _ _ _ _ _ _ _ _ _ E _ _ _ _ HF7
end Go.Proofs.YtbnobjlphmkgeaaGreatDoor
/- HeapPlays: the case 5 of the switch. -/
namespace Go.Proofs.YtbnobjlphmkgeaaGreatDoor
open Go.RowKit Go.Maps Go.ChangeMaps

set_option maxRecDepth 1000000 in
set_option maxHeartbeats 8000000 in
theorem hp_case5 (Q : Exit → Act → World → Prop) (u1 u2 u3 u4 u5 u8 u9 u10 u13 u14 u15 u16 u17 u18 u19 u20 u21 u22 u23 u24 u25 u26 u27 u28 u29 u30 u31 u32 u33 u34 u35 u36 u37 u38 u39 u40 u41 u42 u43 u44 u45 u46 u47 u48 u49 u50 u51 u52 u53 u54 u55 u56 u57 u58 u59 u60 u61 u62 u63 u64 u65 u66 u67 u68 u69 u70 u71 u72 u73 u74 u75 u76 u77 u78 u79 u80 u81 u82 u83 u84 u86 u87 u88 u89 u90 u91 u92 u93 u94 u95 u96 u97 u98 u99 u100 u101 u102 u103 u104 u105 u106 u107 u108 u109 u110 u111 u112 u113 u114 u115 u116 u117 u118 u119 u120 u121 u122 u123 u124 u125 u126 u127 u128 u129 u130 u131 u132 u133 u134 u135 u136 u137 u138 u139 u140 u141 u142 u143 u144 u145 u146 u147 u148 u149 u150 u151 u152 u153 u154 u155 u156 u157 u158 u159 u160 u161 u162 u163 u164 u165 u166 u167 u168 u169 u170 u171 u172 u173 u174 u175 u176 u177 u178 u179 u180 u181 u182 u183 u184 u185 u186 u187 u188 u189 u190 u191 u192 u193 u194 u195 u196 u197 u198 u199 u200 u201 u202 u203 u204 u205 u206 u207 u208 u209 u210 u211 u212 u213 u214 u215 u216 u217 u218 u219 u220 u221 u222 u223 u224 u225 u226 u227 u228 u229 u230 u231 u232 u233 u234 u235 u236 u237 u238 u239 u240 u241 u242 u243 u244 u245 u246 u247 u248 u249 u250 u251 u252 u253 u254 u255 u256 u257 u258 u259 u260 u261 u262 u263 u264 u265 u266 u267 u268 u269 u270 u271 u272 u273 u274 u275 u276 u277 u278 u279 u280 u281 u282 u283 u284 u285 u286 u287 u288 u289 u290 u291 u292 u293 u294 u295 u296 u297 u298 u299 u300 u301 u302 u303 u304 u305 u306 u307 u308 u309 u310 u311 u312 u313 u314 u315 u316 u317 u318 u319 u320 u321 u322 u323 u324 u325 u326 u327 u328 u329 u330 u331 u332 u333 u334 u335 u336 u337 u338 u339 u340 u341 u342 u343 u344 u345 u346 u347 u348 u349 u350 u351 u352 u353 u354 u355 u356 u357 u358 u359 u360 u361 u362 u363 u364 u365 u366 u367 u368 u369 u370 u371 u372 u373 : Value) (w W1 : World) (F : Nat → Prop) (h gb ob cb NL bx : Nat) (l : Bytes) (what handle at_ len : Int) (name : Bytes) (bA : Option Addr) (bc : Nat) (body : Bytes) (HTY : Hidden (HasType w)) (hcb : NL ≤ cb) (hl0 : 0 < l.length) (hNb : 288 ≤ NL ∧ NL ≤ 6400) (HP1 : Hidden (Hp w W1 F h l)) (HRB : Hidden (RdO W1 F gb ob l)) (HLL : Hidden (l.length = NL ∧ Good l)) (H6 : Hidden (Six6 W1 bx (.int .i64 what) (.int .i64 handle) (.int .i64 at_) (.int .i64 len) (sv name) (.slice bA body.length bc) ∧ bx < W1.heap.size)) (HBO : Hidden (body.length ≤ bc ∧ bc ≤ 140737488351232 ∧ name.length ≤ 140737488351232 ∧ Rd W1 bA body)) (HLB : Hidden (-9223372036854775808 ≤ len ∧ len ≤ 9223372036854775807))
    (HER : Hidden (∀ (E : Nat) W, Below w.heap.size w W → Calls Tryz.prog 10 #[errV E, .int .i64 (E : Int)] W fun e w' => e = .returned (.bool true) ∧ Below W.heap.size W w')) (HER0 : Hidden (∀ W, Below w.heap.size w W → Calls Tryz.prog 10 #[.nilIface, .int .i64 0] W fun e w' => e = .returned (.bool true) ∧ Below W.heap.size W w')) (z5 : what = 5)
    (hfin : ∀ (x13 x14 x15 x16 x17 x18 x19 x20 x21 x22 x23 x24 x25 x26 x27 x28 x29 x30 x31 x32 x33 x34 x35 x36 x37 x38 x39 x40 x41 x42 x43 x44 x86 x87 x88 x89 x90 x91 x92 x93 x94 x95 x96 x97 x98 x99 x100 x101 x102 x103 x104 x105 x106 x107 x108 x109 x110 x111 x112 x113 x114 x115 x116 x117 x118 x119 x120 x121 x122 x123 x124 x125 x126 x127 x128 x129 x130 x131 x132 x133 x134 x135 x136 x137 x138 x139 x140 x141 x142 x143 x144 x145 x146 x147 x148 x149 x150 x151 x152 x153 x154 x155 x156 x157 x158 x159 x160 x161 x162 x163 x164 x165 x166 x167 x168 x169 x170 x171 x172 x173 x174 x175 x176 x177 x178 x179 x180 x181 x182 x183 x184 x185 x186 x187 x188 x189 x190 x191 x192 x193 x194 x195 x196 x197 x198 x199 x200 x201 x202 x203 x204 x205 x206 x207 x208 x209 x210 x211 x212 x213 x214 x215 x216 x217 x218 x219 x220 x221 x222 x223 x224 x225 x226 x227 x228 x229 x230 x231 x232 x233 x234 x235 x236 x237 x238 x239 x240 x241 x242 x243 x244 x245 x246 x247 x248 x249 x250 x251 x252 x253 x254 x255 x256 x257 x258 x259 x260 x261 x262 x263 x264 x265 x266 x267 x268 x269 x270 x271 x272 x273 x274 x275 x276 x277 x278 x279 x280 x281 x282 x283 x284 x285 x286 x287 x288 x289 x290 x291 x292 x293 x294 x295 x296 x297 x298 x299 x300 x301 x302 x303 x304 x305 x306 x307 x308 x309 x310 x311 x312 x313 x314 x315 x316 x317 x318 x319 x320 x321 x322 x323 x324 x325 x326 x327 x328 x329 x330 x331 x332 x333 x334 x335 x336 x337 x338 x339 x340 x341 x342 x343 x344 x345 x346 x347 x348 x349 x350 x351 x352 x353 x354 x355 x356 x357 x358 x359 x360 : Value) (E : Nat) (F2 : Nat → Prop) (l2 : Bytes) (nv : Value) (wx : World), Hidden (HpCut w wx F2 h gb ob NL E l l2 nv) → Q .normal ⟨#[.slice (some ⟨gb, ob, none⟩) NL cb, u1, u2, u3, u4, u5, .int .i64 (E : Int), .pointer (some ⟨h, 0, none⟩), u8, .bool true, u10, .pointer (some ⟨bx, 0, none⟩), nv, x13, x14, x15, x16, x17, x18, x19, x20, x21, x22, x23, x24, x25, x26, x27, x28, x29, x30, x31, x32, x33, x34, x35, x36, x37, x38, x39, x40, x41, x42, x43, x44, u45, u46, u47, u48, u49, u50, u51, u52, u53, u54, u55, u56, u57, u58, u59, u60, u61, u62, u63, u64, u65, u66, u67, u68, u69, u70, u71, u72, u73, u74, u75, u76, u77, u78, u79, u80, u81, u82, u83, u84, .int .i64 what, x86, x87, x88, x89, x90, x91, x92, x93, x94, x95, x96, x97, x98, x99, x100, x101, x102, x103, x104, x105, x106, x107, x108, x109, x110, x111, x112, x113, x114, x115, x116, x117, x118, x119, x120, x121, x122, x123, x124, x125, x126, x127, x128, x129, x130, x131, x132, x133, x134, x135, x136, x137, x138, x139, x140, x141, x142, x143, x144, x145, x146, x147, x148, x149, x150, x151, x152, x153, x154, x155, x156, x157, x158, x159, x160, x161, x162, x163, x164, x165, x166, x167, x168, x169, x170, x171, x172, x173, x174, x175, x176, x177, x178, x179, x180, x181, x182, x183, x184, x185, x186, x187, x188, x189, x190, x191, x192, x193, x194, x195, x196, x197, x198, x199, x200, x201, x202, x203, x204, x205, x206, x207, x208, x209, x210, x211, x212, x213, x214, x215, x216, x217, x218, x219, x220, x221, x222, x223, x224, x225, x226, x227, x228, x229, x230, x231, x232, x233, x234, x235, x236, x237, x238, x239, x240, x241, x242, x243, x244, x245, x246, x247, x248, x249, x250, x251, x252, x253, x254, x255, x256, x257, x258, x259, x260, x261, x262, x263, x264, x265, x266, x267, x268, x269, x270, x271, x272, x273, x274, x275, x276, x277, x278, x279, x280, x281, x282, x283, x284, x285, x286, x287, x288, x289, x290, x291, x292, x293, x294, x295, x296, x297, x298, x299, x300, x301, x302, x303, x304, x305, x306, x307, x308, x309, x310, x311, x312, x313, x314, x315, x316, x317, x318, x319, x320, x321, x322, x323, x324, x325, x326, x327, x328, x329, x330, x331, x332, x333, x334, x335, x336, x337, x338, x339, x340, x341, x342, x343, x344, x345, x346, x347, x348, x349, x350, x351, x352, x353, x354, x355, x356, x357, x358, x359, x360, u361, u362, u363, u364, u365, u366, u367, u368, u369, u370, u371, u372, u373], []⟩ wx) :
    Code.wp Tryz.prog hpSw Q ⟨#[.slice (some ⟨gb, ob, none⟩) NL cb, u1, u2, u3, u4, u5, .int .i64 0, .pointer (some ⟨h, 0, none⟩), u8, u9, u10, .pointer (some ⟨bx, 0, none⟩), .slice none 0 0, u13, u14, u15, u16, u17, u18, u19, u20, u21, u22, u23, u24, u25, u26, u27, u28, u29, u30, u31, u32, u33, u34, u35, u36, u37, u38, u39, u40, u41, u42, u43, u44, u45, u46, u47, u48, u49, u50, u51, u52, u53, u54, u55, u56, u57, u58, u59, u60, u61, u62, u63, u64, u65, u66, u67, u68, u69, u70, u71, u72, u73, u74, u75, u76, u77, u78, u79, u80, u81, u82, u83, u84, .int .i64 what, u86, u87, u88, u89, u90, u91, u92, u93, u94, u95, u96, u97, u98, u99, u100, u101, u102, u103, u104, u105, u106, u107, u108, u109, u110, u111, u112, u113, u114, u115, u116, u117, u118, u119, u120, u121, u122, u123, u124, u125, u126, u127, u128, u129, u130, u131, u132, u133, u134, u135, u136, u137, u138, u139, u140, u141, u142, u143, u144, u145, u146, u147, u148, u149, u150, u151, u152, u153, u154, u155, u156, u157, u158, u159, u160, u161, u162, u163, u164, u165, u166, u167, u168, u169, u170, u171, u172, u173, u174, u175, u176, u177, u178, u179, u180, u181, u182, u183, u184, u185, u186, u187, u188, u189, u190, u191, u192, u193, u194, u195, u196, u197, u198, u199, u200, u201, u202, u203, u204, u205, u206, u207, u208, u209, u210, u211, u212, u213, u214, u215, u216, u217, u218, u219, u220, u221, u222, u223, u224, u225, u226, u227, u228, u229, u230, u231, u232, u233, u234, u235, u236, u237, u238, u239, u240, u241, u242, u243, u244, u245, u246, u247, u248, u249, u250, u251, u252, u253, u254, u255, u256, u257, u258, u259, u260, u261, u262, u263, u264, u265, u266, u267, u268, u269, u270, u271, u272, u273, u274, u275, u276, u277, u278, u279, u280, u281, u282, u283, u284, u285, u286, u287, u288, u289, u290, u291, u292, u293, u294, u295, u296, u297, u298, u299, u300, u301, u302, u303, u304, u305, u306, u307, u308, u309, u310, u311, u312, u313, u314, u315, u316, u317, u318, u319, u320, u321, u322, u323, u324, u325, u326, u327, u328, u329, u330, u331, u332, u333, u334, u335, u336, u337, u338, u339, u340, u341, u342, u343, u344, u345, u346, u347, u348, u349, u350, u351, u352, u353, u354, u355, u356, u357, u358, u359, u360, u361, u362, u363, u364, u365, u366, u367, u368, u369, u370, u371, u372, u373], []⟩ W1 := by
  conv => arg 2; whnf
  obtain ⟨c0, c1, c2, c3', c4, c5⟩ := H6.out.1
  subst z5
  have HC := Hidden.mk (runset_all gb ob NL cb l name W1 HBO.out.2.2.1 HLL.out.1 HLL.out.2 hcb HRB.out.rd)
  clear HLB
  try dsimp only
  go_wp2_with fail
  refine HC.out.mono ?_
  rintro e w5 ⟨hb5, ⟨h0, g5, c5', rfl, hc5, hg5, hr5⟩ | ⟨h0, rfl⟩⟩
  · have HB5 := Hidden.mk hb5
    have HP5 := Hidden.mk (HP1.out.below hb5)
    have HG2 : Hidden (Good (unL l name) ∧ (unL l name).length = NL) := ⟨(stepR_unset HLL.out.2 name).good, (stepR_unset HLL.out.2 name).len.trans HLL.out.1⟩
    have HRD : Hidden (RdO w5 F g5 0 (unL l name) ∧ RdO w5 F gb ob l ∧ NL ≤ c5') := ⟨RdO.fresh HP1.out.flt hg5 hr5 (by rw [HG2.out.2]; omega), HRB.out.below hb5, hc5⟩
    have HPR := Hidden.mk (runset_any name HP5.out HLL.out.2 HBO.out.2.2.1)
    rw [h0, errV0] at HPR
    obtain ⟨c0, c1, c2, c3', c4, c5⟩ := H6.out.1.below HB5.out H6.out.2
    clear hb5 h0 hc5 hg5 hr5 HC
    generalize unL l name = l2 at *
    try dsimp only
    go_wp2_with fail
    refine HPR.out.mono ?_
    rintro e w6 ⟨rfl, F6, hm6⟩
    have HF6 := Hidden.mk (hpc_ok hm6 HG2.out.1 HG2.out.2 HRD.out.2.1 HRD.out.2.2 HRD.out.1)
    clear hm6 HPR HRD HG2 HP5 HB5 c0 c1 c2 c3' c4 c5
    try dsimp only
    go_wp2_with fail
    refine (HER0.out _ HF6.out.hp.bel).mono ?_
    rintro e w7 ⟨rfl, hb7⟩
    have HF7 := Hidden.mk (HF6.out.below hb7)
    clear hb7 HF6
    try dsimp only
    go_wp2_with fail
    all_goals
      exact hfin _ _ _ _ _ _ _ _ _ _ _ _ _ _ _ _ _ _ _ _ _ _ _ _ _ _ _ _ _ _ _ _ _ _ _ _ _ _ _ _ _ _ _ _ _ _ _ _ _ _ _ _ _ _ _ _ _ _ _ _ _ _ _ _ _ _ _ _ _ _ _ _ _ _ _ _ _ _ _ _ _ _ _ _ _ _ _ _ _ _ _ _ _ _ _ _ _ _ _ _ _ _ _ _ _ _ _ _ _ _ _ _ _ _ _ _ _ _ _ _ _ _ _ _ _ _ _ _ _ _ _ _ _ _ _ _ _ _ _ _ _ _ _ _ _ _ _ _ _ _ _ _ _ _ _ _ _ _ _ _ _ _ _ _ _ _ _ _ _ _ _ _ _ _ _ _ _ _ _ _ _ _ _ _ _ _ _ _ _ _ _ _ _ _ _ _ _ _ _ _ _ _ _ _ _ _ _ _ _ _ _ _ _ _ _ _ _ _ _ _ _ _ _ _ _ _ _ _ _ _ _ _ _ _ _ _ _ _ _ _ _ _ _ _ _ _ _ _ _ _ _ _ _ _ _ _ _ _ _ _ _ _ _ _ _ _ _ _ _ _ _ _ _ _ _ _ _ _ _ _ _ _ _ _ _ _ _ _ _ _ _ _ _ _ _ _ _ _ _ _ _ _ _ _ _ _ _ 0 _ _ _ _ HF7
  · have HB5 := Hidden.mk hb5
    have HP5 := Hidden.mk (HP1.out.below hb5)
    have HPR := Hidden.mk (runset_any name HP5.out HLL.out.2 HBO.out.2.2.1)
    have HEQ : Hidden (unL l name = l) := ⟨by unfold unL; rw [if_neg h0]⟩
    have HRD := Hidden.mk (HRB.out.below hb5)
    have HZ := Hidden.mk h0
    obtain ⟨c0, c1, c2, c3', c4, c5⟩ := H6.out.1.below HB5.out H6.out.2
    clear hb5 h0 HC
    generalize unL l name = l2 at *
    generalize unE l name = E at *
    try dsimp only
    go_wp2_with fail
    refine HPR.out.mono ?_
    rintro e w6 ⟨rfl, F6, hm6⟩
    have HF6 := Hidden.mk (hpc_bad (nv := .slice none 0 0) (E := E) hm6 HEQ.out HLL.out.2 HLL.out.1 HRD.out HZ.out)
    clear hm6 HPR HRD HP5 HB5 c0 c1 c2 c3' c4 c5
    try dsimp only
    go_wp2_with fail
    refine (HER.out E _ HF6.out.hp.bel).mono ?_
    rintro e w7 ⟨rfl, hb7⟩
    have HF7 := Hidden.mk (HF6.out.below hb7)
    clear hb7 HF6
    try dsimp only
    go_wp2_with fail
    exact hfin _ _ _ _ _ _ _ _ _ _ _ _ _ _ _ _ _ _ _ _ _ _ _ _ _ _ _ _ _ _ _ _ _ _ _ _ _ _ _ _ _ _ _ _ _ _ _ _ _ _ _ _ _ _ _ _ _ _ _ _ _ _ _ _ _ _ _ _ _ _ _ _ _ _ _ _ _ _ _ _ _ _ _ _ _ _ _ _ _ _ _ _ _ _ _ _ _ _ _ _ _ _ _ _ _ _ _ _ _ _ _ _ _ _ _ _ _ _ _ _ _ _ _ _ _ _ _ _ _ _ _ _ _ _ _ _ _ _ _ _ _ _ _ _ _ _ _ _ _ _ _ _ _ _ _ _ _ _ _ _ _ _ _ _ _ _ _ _ _ _ _ _ _ _ _ _ _ _ _ _ _ _ _ _ _ _ _ _ _ _ _ _ _ _ _ _ _ _ _ _ _ _ _ _ _ _ _ _ _ _ _ _ _ _ _ _ _ _ _ _ _ _ _ _ _ _ _ _ _ _ _ _ _ _ _ _ _ _ _ _ _ _ _ _ _ _ _ _ _ _ _ _ _ _ _ _ _ _ _ _ _ _ _ _ _ _ _ _ _ _ _ _ _ _ _ _ _ _ _ _ _ _ _ _ _ _ _ _ _ _ _ _ _ _ _ _ _ _ _ _ _ _ _ _ _ _ _ E _ _ _ _ HF7
end Go.Proofs.YtbnobjlphmkgeaaGreatDoor
/- HeapPlays: the case 8 of the switch. -/
namespace Go.Proofs.YtbnobjlphmkgeaaGreatDoor
open Go.RowKit Go.Maps Go.ChangeMaps

set_option maxRecDepth 1000000 in
set_option maxHeartbeats 8000000 in
theorem hp_case8 (Q : Exit → Act → World → Prop) (u1 u2 u3 u4 u5 u8 u9 u10 u13 u14 u15 u16 u17 u18 u19 u20 u21 u22 u23 u24 u25 u26 u27 u28 u29 u30 u31 u32 u33 u34 u35 u36 u37 u38 u39 u40 u41 u42 u43 u44 u45 u46 u47 u48 u49 u50 u51 u52 u53 u54 u55 u56 u57 u58 u59 u60 u61 u62 u63 u64 u65 u66 u67 u68 u69 u70 u71 u72 u73 u74 u75 u76 u77 u78 u79 u80 u81 u82 u83 u84 u86 u87 u88 u89 u90 u91 u92 u93 u94 u95 u96 u97 u98 u99 u100 u101 u102 u103 u104 u105 u106 u107 u108 u109 u110 u111 u112 u113 u114 u115 u116 u117 u118 u119 u120 u121 u122 u123 u124 u125 u126 u127 u128 u129 u130 u131 u132 u133 u134 u135 u136 u137 u138 u139 u140 u141 u142 u143 u144 u145 u146 u147 u148 u149 u150 u151 u152 u153 u154 u155 u156 u157 u158 u159 u160 u161 u162 u163 u164 u165 u166 u167 u168 u169 u170 u171 u172 u173 u174 u175 u176 u177 u178 u179 u180 u181 u182 u183 u184 u185 u186 u187 u188 u189 u190 u191 u192 u193 u194 u195 u196 u197 u198 u199 u200 u201 u202 u203 u204 u205 u206 u207 u208 u209 u210 u211 u212 u213 u214 u215 u216 u217 u218 u219 u220 u221 u222 u223 u224 u225 u226 u227 u228 u229 u230 u231 u232 u233 u234 u235 u236 u237 u238 u239 u240 u241 u242 u243 u244 u245 u246 u247 u248 u249 u250 u251 u252 u253 u254 u255 u256 u257 u258 u259 u260 u261 u262 u263 u264 u265 u266 u267 u268 u269 u270 u271 u272 u273 u274 u275 u276 u277 u278 u279 u280 u281 u282 u283 u284 u285 u286 u287 u288 u289 u290 u291 u292 u293 u294 u295 u296 u297 u298 u299 u300 u301 u302 u303 u304 u305 u306 u307 u308 u309 u310 u311 u312 u313 u314 u315 u316 u317 u318 u319 u320 u321 u322 u323 u324 u325 u326 u327 u328 u329 u330 u331 u332 u333 u334 u335 u336 u337 u338 u339 u340 u341 u342 u343 u344 u345 u346 u347 u348 u349 u350 u351 u352 u353 u354 u355 u356 u357 u358 u359 u360 u361 u362 u363 u364 u365 u366 u367 u368 u369 u370 u371 u372 u373 : Value) (w W1 : World) (F : Nat → Prop) (h gb ob cb NL bx : Nat) (l : Bytes) (what handle at_ len : Int) (name : Bytes) (bA : Option Addr) (bc : Nat) (body : Bytes) (HTY : Hidden (HasType w)) (hcb : NL ≤ cb) (hl0 : 0 < l.length) (hNb : 288 ≤ NL ∧ NL ≤ 6400) (HP1 : Hidden (Hp w W1 F h l)) (HRB : Hidden (RdO W1 F gb ob l)) (HLL : Hidden (l.length = NL ∧ Good l)) (H6 : Hidden (Six6 W1 bx (.int .i64 what) (.int .i64 handle) (.int .i64 at_) (.int .i64 len) (sv name) (.slice bA body.length bc) ∧ bx < W1.heap.size)) (HBO : Hidden (body.length ≤ bc ∧ bc ≤ 140737488351232 ∧ name.length ≤ 140737488351232 ∧ Rd W1 bA body)) (HLB : Hidden (-9223372036854775808 ≤ len ∧ len ≤ 9223372036854775807))
    (HER : Hidden (∀ (E : Nat) W, Below w.heap.size w W → Calls Tryz.prog 10 #[errV E, .int .i64 (E : Int)] W fun e w' => e = .returned (.bool true) ∧ Below W.heap.size W w')) (HER0 : Hidden (∀ W, Below w.heap.size w W → Calls Tryz.prog 10 #[.nilIface, .int .i64 0] W fun e w' => e = .returned (.bool true) ∧ Below W.heap.size W w')) (z8 : what = 8)
    (hfin : ∀ (x13 x14 x15 x16 x17 x18 x19 x20 x21 x22 x23 x24 x25 x26 x27 x28 x29 x30 x31 x32 x33 x34 x35 x36 x37 x38 x39 x40 x41 x42 x43 x44 x86 x87 x88 x89 x90 x91 x92 x93 x94 x95 x96 x97 x98 x99 x100 x101 x102 x103 x104 x105 x106 x107 x108 x109 x110 x111 x112 x113 x114 x115 x116 x117 x118 x119 x120 x121 x122 x123 x124 x125 x126 x127 x128 x129 x130 x131 x132 x133 x134 x135 x136 x137 x138 x139 x140 x141 x142 x143 x144 x145 x146 x147 x148 x149 x150 x151 x152 x153 x154 x155 x156 x157 x158 x159 x160 x161 x162 x163 x164 x165 x166 x167 x168 x169 x170 x171 x172 x173 x174 x175 x176 x177 x178 x179 x180 x181 x182 x183 x184 x185 x186 x187 x188 x189 x190 x191 x192 x193 x194 x195 x196 x197 x198 x199 x200 x201 x202 x203 x204 x205 x206 x207 x208 x209 x210 x211 x212 x213 x214 x215 x216 x217 x218 x219 x220 x221 x222 x223 x224 x225 x226 x227 x228 x229 x230 x231 x232 x233 x234 x235 x236 x237 x238 x239 x240 x241 x242 x243 x244 x245 x246 x247 x248 x249 x250 x251 x252 x253 x254 x255 x256 x257 x258 x259 x260 x261 x262 x263 x264 x265 x266 x267 x268 x269 x270 x271 x272 x273 x274 x275 x276 x277 x278 x279 x280 x281 x282 x283 x284 x285 x286 x287 x288 x289 x290 x291 x292 x293 x294 x295 x296 x297 x298 x299 x300 x301 x302 x303 x304 x305 x306 x307 x308 x309 x310 x311 x312 x313 x314 x315 x316 x317 x318 x319 x320 x321 x322 x323 x324 x325 x326 x327 x328 x329 x330 x331 x332 x333 x334 x335 x336 x337 x338 x339 x340 x341 x342 x343 x344 x345 x346 x347 x348 x349 x350 x351 x352 x353 x354 x355 x356 x357 x358 x359 x360 : Value) (E : Nat) (F2 : Nat → Prop) (l2 : Bytes) (nv : Value) (wx : World), Hidden (HpCut w wx F2 h gb ob NL E l l2 nv) → Q .normal ⟨#[.slice (some ⟨gb, ob, none⟩) NL cb, u1, u2, u3, u4, u5, .int .i64 (E : Int), .pointer (some ⟨h, 0, none⟩), u8, .bool true, u10, .pointer (some ⟨bx, 0, none⟩), nv, x13, x14, x15, x16, x17, x18, x19, x20, x21, x22, x23, x24, x25, x26, x27, x28, x29, x30, x31, x32, x33, x34, x35, x36, x37, x38, x39, x40, x41, x42, x43, x44, u45, u46, u47, u48, u49, u50, u51, u52, u53, u54, u55, u56, u57, u58, u59, u60, u61, u62, u63, u64, u65, u66, u67, u68, u69, u70, u71, u72, u73, u74, u75, u76, u77, u78, u79, u80, u81, u82, u83, u84, .int .i64 what, x86, x87, x88, x89, x90, x91, x92, x93, x94, x95, x96, x97, x98, x99, x100, x101, x102, x103, x104, x105, x106, x107, x108, x109, x110, x111, x112, x113, x114, x115, x116, x117, x118, x119, x120, x121, x122, x123, x124, x125, x126, x127, x128, x129, x130, x131, x132, x133, x134, x135, x136, x137, x138, x139, x140, x141, x142, x143, x144, x145, x146, x147, x148, x149, x150, x151, x152, x153, x154, x155, x156, x157, x158, x159, x160, x161, x162, x163, x164, x165, x166, x167, x168, x169, x170, x171, x172, x173, x174, x175, x176, x177, x178, x179, x180, x181, x182, x183, x184, x185, x186, x187, x188, x189, x190, x191, x192, x193, x194, x195, x196, x197, x198, x199, x200, x201, x202, x203, x204, x205, x206, x207, x208, x209, x210, x211, x212, x213, x214, x215, x216, x217, x218, x219, x220, x221, x222, x223, x224, x225, x226, x227, x228, x229, x230, x231, x232, x233, x234, x235, x236, x237, x238, x239, x240, x241, x242, x243, x244, x245, x246, x247, x248, x249, x250, x251, x252, x253, x254, x255, x256, x257, x258, x259, x260, x261, x262, x263, x264, x265, x266, x267, x268, x269, x270, x271, x272, x273, x274, x275, x276, x277, x278, x279, x280, x281, x282, x283, x284, x285, x286, x287, x288, x289, x290, x291, x292, x293, x294, x295, x296, x297, x298, x299, x300, x301, x302, x303, x304, x305, x306, x307, x308, x309, x310, x311, x312, x313, x314, x315, x316, x317, x318, x319, x320, x321, x322, x323, x324, x325, x326, x327, x328, x329, x330, x331, x332, x333, x334, x335, x336, x337, x338, x339, x340, x341, x342, x343, x344, x345, x346, x347, x348, x349, x350, x351, x352, x353, x354, x355, x356, x357, x358, x359, x360, u361, u362, u363, u364, u365, u366, u367, u368, u369, u370, u371, u372, u373], []⟩ wx) :
    Code.wp Tryz.prog hpSw Q ⟨#[.slice (some ⟨gb, ob, none⟩) NL cb, u1, u2, u3, u4, u5, .int .i64 0, .pointer (some ⟨h, 0, none⟩), u8, u9, u10, .pointer (some ⟨bx, 0, none⟩), .slice none 0 0, u13, u14, u15, u16, u17, u18, u19, u20, u21, u22, u23, u24, u25, u26, u27, u28, u29, u30, u31, u32, u33, u34, u35, u36, u37, u38, u39, u40, u41, u42, u43, u44, u45, u46, u47, u48, u49, u50, u51, u52, u53, u54, u55, u56, u57, u58, u59, u60, u61, u62, u63, u64, u65, u66, u67, u68, u69, u70, u71, u72, u73, u74, u75, u76, u77, u78, u79, u80, u81, u82, u83, u84, .int .i64 what, u86, u87, u88, u89, u90, u91, u92, u93, u94, u95, u96, u97, u98, u99, u100, u101, u102, u103, u104, u105, u106, u107, u108, u109, u110, u111, u112, u113, u114, u115, u116, u117, u118, u119, u120, u121, u122, u123, u124, u125, u126, u127, u128, u129, u130, u131, u132, u133, u134, u135, u136, u137, u138, u139, u140, u141, u142, u143, u144, u145, u146, u147, u148, u149, u150, u151, u152, u153, u154, u155, u156, u157, u158, u159, u160, u161, u162, u163, u164, u165, u166, u167, u168, u169, u170, u171, u172, u173, u174, u175, u176, u177, u178, u179, u180, u181, u182, u183, u184, u185, u186, u187, u188, u189, u190, u191, u192, u193, u194, u195, u196, u197, u198, u199, u200, u201, u202, u203, u204, u205, u206, u207, u208, u209, u210, u211, u212, u213, u214, u215, u216, u217, u218, u219, u220, u221, u222, u223, u224, u225, u226, u227, u228, u229, u230, u231, u232, u233, u234, u235, u236, u237, u238, u239, u240, u241, u242, u243, u244, u245, u246, u247, u248, u249, u250, u251, u252, u253, u254, u255, u256, u257, u258, u259, u260, u261, u262, u263, u264, u265, u266, u267, u268, u269, u270, u271, u272, u273, u274, u275, u276, u277, u278, u279, u280, u281, u282, u283, u284, u285, u286, u287, u288, u289, u290, u291, u292, u293, u294, u295, u296, u297, u298, u299, u300, u301, u302, u303, u304, u305, u306, u307, u308, u309, u310, u311, u312, u313, u314, u315, u316, u317, u318, u319, u320, u321, u322, u323, u324, u325, u326, u327, u328, u329, u330, u331, u332, u333, u334, u335, u336, u337, u338, u339, u340, u341, u342, u343, u344, u345, u346, u347, u348, u349, u350, u351, u352, u353, u354, u355, u356, u357, u358, u359, u360, u361, u362, u363, u364, u365, u366, u367, u368, u369, u370, u371, u372, u373], []⟩ W1 := by
  conv => arg 2; whnf
  obtain ⟨c0, c1, c2, c3', c4, c5⟩ := H6.out.1
  subst z8
  have HC := Hidden.mk (rstep_any gb ob NL cb l W1 HLL.out.1 HLL.out.2 hcb HRB.out.rd)
  have HG2 : Hidden (Good (stepL l) ∧ (stepL l).length = NL) := ⟨(stepR_moved (step_moved HLL.out.2).1).good, (stepR_moved (step_moved HLL.out.2).1).len.trans HLL.out.1⟩
  clear HLB
  try dsimp only
  go_wp2_with fail
  refine HC.out.mono ?_
  rintro e w5 ⟨g5, o5, c5', rfl, hc5, hg5, hr5, hb5⟩
  have HP5 := Hidden.mk (HP1.out.below hb5)
  have HRD : Hidden (RdO w5 F g5 o5 (stepL l) ∧ RdO w5 F gb ob l ∧ NL ≤ c5') := ⟨⟨hr5, fun hx => by
    rcases hg5 with rfl | hg5
    · exact HRB.out.nx hx
    · have := HP1.out.flt _ hx; omega, by rw [HG2.out.2]; omega⟩, HRB.out.below hb5, hc5⟩
  have HPR := Hidden.mk (mstep_any HP5.out HLL.out.2)
  clear hb5 hc5 hg5 hr5 HC
  generalize stepL l = l2 at *
  generalize stepB l = sb at *
  try dsimp only
  go_wp2_with fail
  refine HPR.out.mono ?_
  rintro e w6 ⟨rfl, F6, hm6⟩
  have HF6 := Hidden.mk (hpc_ok hm6 HG2.out.1 HG2.out.2 HRD.out.2.1 HRD.out.2.2 HRD.out.1)
  clear hm6 HPR HRD HG2 HP5
  cases sb
  all_goals
    try dsimp only
    go_wp2_with fail
    exact hfin _ _ _ _ _ _ _ _ _ _ _ _ _ _ _ _ _ _ _ _ _ _ _ _ _ _ _ _ _ _ _ _ _ _ _ _ _ _ _ _ _ _ _ _ _ _ _ _ _ _ _ _ _ _ _ _ _ _ _ _ _ _ _ _ _ _ _ _ _ _ _ _ _ _ _ _ _ _ _ _ _ _ _ _ _ _ _ _ _ _ _ _ _ _ _ _ _ _ _ _ _ _ _ _ _ _ _ _ _ _ _ _ _ _ _ _ _ _ _ _ _ _ _ _ _ _ _ _ _ _ _ _ _ _ _ _ _ _ _ _ _ _ _ _ _ _ _ _ _ _ _ _ _ _ _ _ _ _ _ _ _ _ _ _ _ _ _ _ _ _ _ _ _ _ _ _ _ _ _ _ _ _ _ _ _ _ _ _ _ _ _ _ _ _ _ _ _ _ _ _ _ _ _ _ _ _ _ _ _ _ _ _ _ _ _ _ _ _ _ _ _ _ _ _ _ _ _ _ _ _ _ _ _ _ _ _ _ _ _ _ _ _ _ _ _ _ _ _ _ _ _ _ _ _ _ _ _ _ _ _ _ _ _ _ _ _ _ _ _ _ _ _ _ _ _ _ _ _ _ _ _ _ _ _ _ _ _ _ _ _ _ _ _ _ _ _ _ _ _ _ _ _ _ _ _ _ _ 0 _ _ _ _ HF6
end Go.Proofs.YtbnobjlphmkgeaaGreatDoor
/- HeapPlays: the case 9 of the switch. -/
namespace Go.Proofs.YtbnobjlphmkgeaaGreatDoor
open Go.RowKit Go.Maps Go.ChangeMaps

set_option maxRecDepth 1000000 in
set_option maxHeartbeats 8000000 in
theorem hp_case9 (Q : Exit → Act → World → Prop) (u1 u2 u3 u4 u5 u8 u9 u10 u13 u14 u15 u16 u17 u18 u19 u20 u21 u22 u23 u24 u25 u26 u27 u28 u29 u30 u31 u32 u33 u34 u35 u36 u37 u38 u39 u40 u41 u42 u43 u44 u45 u46 u47 u48 u49 u50 u51 u52 u53 u54 u55 u56 u57 u58 u59 u60 u61 u62 u63 u64 u65 u66 u67 u68 u69 u70 u71 u72 u73 u74 u75 u76 u77 u78 u79 u80 u81 u82 u83 u84 u86 u87 u88 u89 u90 u91 u92 u93 u94 u95 u96 u97 u98 u99 u100 u101 u102 u103 u104 u105 u106 u107 u108 u109 u110 u111 u112 u113 u114 u115 u116 u117 u118 u119 u120 u121 u122 u123 u124 u125 u126 u127 u128 u129 u130 u131 u132 u133 u134 u135 u136 u137 u138 u139 u140 u141 u142 u143 u144 u145 u146 u147 u148 u149 u150 u151 u152 u153 u154 u155 u156 u157 u158 u159 u160 u161 u162 u163 u164 u165 u166 u167 u168 u169 u170 u171 u172 u173 u174 u175 u176 u177 u178 u179 u180 u181 u182 u183 u184 u185 u186 u187 u188 u189 u190 u191 u192 u193 u194 u195 u196 u197 u198 u199 u200 u201 u202 u203 u204 u205 u206 u207 u208 u209 u210 u211 u212 u213 u214 u215 u216 u217 u218 u219 u220 u221 u222 u223 u224 u225 u226 u227 u228 u229 u230 u231 u232 u233 u234 u235 u236 u237 u238 u239 u240 u241 u242 u243 u244 u245 u246 u247 u248 u249 u250 u251 u252 u253 u254 u255 u256 u257 u258 u259 u260 u261 u262 u263 u264 u265 u266 u267 u268 u269 u270 u271 u272 u273 u274 u275 u276 u277 u278 u279 u280 u281 u282 u283 u284 u285 u286 u287 u288 u289 u290 u291 u292 u293 u294 u295 u296 u297 u298 u299 u300 u301 u302 u303 u304 u305 u306 u307 u308 u309 u310 u311 u312 u313 u314 u315 u316 u317 u318 u319 u320 u321 u322 u323 u324 u325 u326 u327 u328 u329 u330 u331 u332 u333 u334 u335 u336 u337 u338 u339 u340 u341 u342 u343 u344 u345 u346 u347 u348 u349 u350 u351 u352 u353 u354 u355 u356 u357 u358 u359 u360 u361 u362 u363 u364 u365 u366 u367 u368 u369 u370 u371 u372 u373 : Value) (w W1 : World) (F : Nat → Prop) (h gb ob cb NL bx : Nat) (l : Bytes) (what handle at_ len : Int) (name : Bytes) (bA : Option Addr) (bc : Nat) (body : Bytes) (HTY : Hidden (HasType w)) (hcb : NL ≤ cb) (hl0 : 0 < l.length) (hNb : 288 ≤ NL ∧ NL ≤ 6400) (HP1 : Hidden (Hp w W1 F h l)) (HRB : Hidden (RdO W1 F gb ob l)) (HLL : Hidden (l.length = NL ∧ Good l)) (H6 : Hidden (Six6 W1 bx (.int .i64 what) (.int .i64 handle) (.int .i64 at_) (.int .i64 len) (sv name) (.slice bA body.length bc) ∧ bx < W1.heap.size)) (HBO : Hidden (body.length ≤ bc ∧ bc ≤ 140737488351232 ∧ name.length ≤ 140737488351232 ∧ Rd W1 bA body)) (HLB : Hidden (-9223372036854775808 ≤ len ∧ len ≤ 9223372036854775807))
    (HER : Hidden (∀ (E : Nat) W, Below w.heap.size w W → Calls Tryz.prog 10 #[errV E, .int .i64 (E : Int)] W fun e w' => e = .returned (.bool true) ∧ Below W.heap.size W w')) (HER0 : Hidden (∀ W, Below w.heap.size w W → Calls Tryz.prog 10 #[.nilIface, .int .i64 0] W fun e w' => e = .returned (.bool true) ∧ Below W.heap.size W w')) (z9 : what = 9)
    (hfin : ∀ (x13 x14 x15 x16 x17 x18 x19 x20 x21 x22 x23 x24 x25 x26 x27 x28 x29 x30 x31 x32 x33 x34 x35 x36 x37 x38 x39 x40 x41 x42 x43 x44 x86 x87 x88 x89 x90 x91 x92 x93 x94 x95 x96 x97 x98 x99 x100 x101 x102 x103 x104 x105 x106 x107 x108 x109 x110 x111 x112 x113 x114 x115 x116 x117 x118 x119 x120 x121 x122 x123 x124 x125 x126 x127 x128 x129 x130 x131 x132 x133 x134 x135 x136 x137 x138 x139 x140 x141 x142 x143 x144 x145 x146 x147 x148 x149 x150 x151 x152 x153 x154 x155 x156 x157 x158 x159 x160 x161 x162 x163 x164 x165 x166 x167 x168 x169 x170 x171 x172 x173 x174 x175 x176 x177 x178 x179 x180 x181 x182 x183 x184 x185 x186 x187 x188 x189 x190 x191 x192 x193 x194 x195 x196 x197 x198 x199 x200 x201 x202 x203 x204 x205 x206 x207 x208 x209 x210 x211 x212 x213 x214 x215 x216 x217 x218 x219 x220 x221 x222 x223 x224 x225 x226 x227 x228 x229 x230 x231 x232 x233 x234 x235 x236 x237 x238 x239 x240 x241 x242 x243 x244 x245 x246 x247 x248 x249 x250 x251 x252 x253 x254 x255 x256 x257 x258 x259 x260 x261 x262 x263 x264 x265 x266 x267 x268 x269 x270 x271 x272 x273 x274 x275 x276 x277 x278 x279 x280 x281 x282 x283 x284 x285 x286 x287 x288 x289 x290 x291 x292 x293 x294 x295 x296 x297 x298 x299 x300 x301 x302 x303 x304 x305 x306 x307 x308 x309 x310 x311 x312 x313 x314 x315 x316 x317 x318 x319 x320 x321 x322 x323 x324 x325 x326 x327 x328 x329 x330 x331 x332 x333 x334 x335 x336 x337 x338 x339 x340 x341 x342 x343 x344 x345 x346 x347 x348 x349 x350 x351 x352 x353 x354 x355 x356 x357 x358 x359 x360 : Value) (E : Nat) (F2 : Nat → Prop) (l2 : Bytes) (nv : Value) (wx : World), Hidden (HpCut w wx F2 h gb ob NL E l l2 nv) → Q .normal ⟨#[.slice (some ⟨gb, ob, none⟩) NL cb, u1, u2, u3, u4, u5, .int .i64 (E : Int), .pointer (some ⟨h, 0, none⟩), u8, .bool true, u10, .pointer (some ⟨bx, 0, none⟩), nv, x13, x14, x15, x16, x17, x18, x19, x20, x21, x22, x23, x24, x25, x26, x27, x28, x29, x30, x31, x32, x33, x34, x35, x36, x37, x38, x39, x40, x41, x42, x43, x44, u45, u46, u47, u48, u49, u50, u51, u52, u53, u54, u55, u56, u57, u58, u59, u60, u61, u62, u63, u64, u65, u66, u67, u68, u69, u70, u71, u72, u73, u74, u75, u76, u77, u78, u79, u80, u81, u82, u83, u84, .int .i64 what, x86, x87, x88, x89, x90, x91, x92, x93, x94, x95, x96, x97, x98, x99, x100, x101, x102, x103, x104, x105, x106, x107, x108, x109, x110, x111, x112, x113, x114, x115, x116, x117, x118, x119, x120, x121, x122, x123, x124, x125, x126, x127, x128, x129, x130, x131, x132, x133, x134, x135, x136, x137, x138, x139, x140, x141, x142, x143, x144, x145, x146, x147, x148, x149, x150, x151, x152, x153, x154, x155, x156, x157, x158, x159, x160, x161, x162, x163, x164, x165, x166, x167, x168, x169, x170, x171, x172, x173, x174, x175, x176, x177, x178, x179, x180, x181, x182, x183, x184, x185, x186, x187, x188, x189, x190, x191, x192, x193, x194, x195, x196, x197, x198, x199, x200, x201, x202, x203, x204, x205, x206, x207, x208, x209, x210, x211, x212, x213, x214, x215, x216, x217, x218, x219, x220, x221, x222, x223, x224, x225, x226, x227, x228, x229, x230, x231, x232, x233, x234, x235, x236, x237, x238, x239, x240, x241, x242, x243, x244, x245, x246, x247, x248, x249, x250, x251, x252, x253, x254, x255, x256, x257, x258, x259, x260, x261, x262, x263, x264, x265, x266, x267, x268, x269, x270, x271, x272, x273, x274, x275, x276, x277, x278, x279, x280, x281, x282, x283, x284, x285, x286, x287, x288, x289, x290, x291, x292, x293, x294, x295, x296, x297, x298, x299, x300, x301, x302, x303, x304, x305, x306, x307, x308, x309, x310, x311, x312, x313, x314, x315, x316, x317, x318, x319, x320, x321, x322, x323, x324, x325, x326, x327, x328, x329, x330, x331, x332, x333, x334, x335, x336, x337, x338, x339, x340, x341, x342, x343, x344, x345, x346, x347, x348, x349, x350, x351, x352, x353, x354, x355, x356, x357, x358, x359, x360, u361, u362, u363, u364, u365, u366, u367, u368, u369, u370, u371, u372, u373], []⟩ wx) :
    Code.wp Tryz.prog hpSw Q ⟨#[.slice (some ⟨gb, ob, none⟩) NL cb, u1, u2, u3, u4, u5, .int .i64 0, .pointer (some ⟨h, 0, none⟩), u8, u9, u10, .pointer (some ⟨bx, 0, none⟩), .slice none 0 0, u13, u14, u15, u16, u17, u18, u19, u20, u21, u22, u23, u24, u25, u26, u27, u28, u29, u30, u31, u32, u33, u34, u35, u36, u37, u38, u39, u40, u41, u42, u43, u44, u45, u46, u47, u48, u49, u50, u51, u52, u53, u54, u55, u56, u57, u58, u59, u60, u61, u62, u63, u64, u65, u66, u67, u68, u69, u70, u71, u72, u73, u74, u75, u76, u77, u78, u79, u80, u81, u82, u83, u84, .int .i64 what, u86, u87, u88, u89, u90, u91, u92, u93, u94, u95, u96, u97, u98, u99, u100, u101, u102, u103, u104, u105, u106, u107, u108, u109, u110, u111, u112, u113, u114, u115, u116, u117, u118, u119, u120, u121, u122, u123, u124, u125, u126, u127, u128, u129, u130, u131, u132, u133, u134, u135, u136, u137, u138, u139, u140, u141, u142, u143, u144, u145, u146, u147, u148, u149, u150, u151, u152, u153, u154, u155, u156, u157, u158, u159, u160, u161, u162, u163, u164, u165, u166, u167, u168, u169, u170, u171, u172, u173, u174, u175, u176, u177, u178, u179, u180, u181, u182, u183, u184, u185, u186, u187, u188, u189, u190, u191, u192, u193, u194, u195, u196, u197, u198, u199, u200, u201, u202, u203, u204, u205, u206, u207, u208, u209, u210, u211, u212, u213, u214, u215, u216, u217, u218, u219, u220, u221, u222, u223, u224, u225, u226, u227, u228, u229, u230, u231, u232, u233, u234, u235, u236, u237, u238, u239, u240, u241, u242, u243, u244, u245, u246, u247, u248, u249, u250, u251, u252, u253, u254, u255, u256, u257, u258, u259, u260, u261, u262, u263, u264, u265, u266, u267, u268, u269, u270, u271, u272, u273, u274, u275, u276, u277, u278, u279, u280, u281, u282, u283, u284, u285, u286, u287, u288, u289, u290, u291, u292, u293, u294, u295, u296, u297, u298, u299, u300, u301, u302, u303, u304, u305, u306, u307, u308, u309, u310, u311, u312, u313, u314, u315, u316, u317, u318, u319, u320, u321, u322, u323, u324, u325, u326, u327, u328, u329, u330, u331, u332, u333, u334, u335, u336, u337, u338, u339, u340, u341, u342, u343, u344, u345, u346, u347, u348, u349, u350, u351, u352, u353, u354, u355, u356, u357, u358, u359, u360, u361, u362, u363, u364, u365, u366, u367, u368, u369, u370, u371, u372, u373], []⟩ W1 := by
  conv => arg 2; whnf
  obtain ⟨c0, c1, c2, c3', c4, c5⟩ := H6.out.1
  subst z9
  have HC := Hidden.mk (rlive_ok gb ob NL cb l W1 HLL.out.1 HLL.out.2 hcb HRB.out.rd)
  have HSW : Hidden (∀ j, j ≤ (deadL l).length → Good (sweepT l ((deadL l).take j)) ∧ (sweepT l ((deadL l).take j)).length = NL) := ⟨fun j hj => by
    have := sweep_at HLL.out.2 j hj
    exact ⟨this.good, this.len.trans HLL.out.1⟩⟩
  have HFR : Hidden (∀ j (hj : j < (deadL l).length), freeE (sweepT l ((deadL l).take j)) ((deadL l)[j] : Int) = 0) := ⟨fun j hj => sweep_free HLL.out.2 hj⟩
  have HSU : Hidden (∀ j (hj : j < (deadL l).length), sweepT l ((deadL l).take (j + 1)) = freeL (sweepT l ((deadL l).take j)) ((deadL l)[j] : Int)) := ⟨fun j hj => sweepT_succ l (deadL l) j hj⟩
  have HEN : Hidden (sweepL l = sweepT l ((deadL l).take (deadL l).length)) := ⟨by rw [List.take_length]; rfl⟩
  have HSZ : Hidden (sweepT l ((deadL l).take 0) = l) := ⟨rfl⟩
  have hd40 : (deadL l).length ≤ 40 := Nat.le_trans (deadE_len _ _) (entsL_len _ _ 40)
  have HPR : Hidden (∀ W, Hp w W F h l → Calls Tryz.prog 25 #[.pointer (some ⟨h, 0, none⟩)] W fun e w' => e = .returned (.tuple #[.int .i64 ((deadL l).length : Int), .nilIface]) ∧ ∃ F', HpM w W w' F F' h (sweepL l)) := ⟨fun W hW => sweep_any hW HLL.out.2⟩
  generalize sweepL l = SW at *
  generalize sweepT l = ST at *
  generalize deadL l = DD at *
  clear HLB
  try dsimp only
  go_wp2_with fail
  refine HC.out.mono ?_
  rintro e w5 ⟨v1, v2, rfl, -, hown, hb5⟩
  obtain ⟨A5, cd, rfl, -, -⟩ := own_split hown
  have HDX := Hidden.mk (own_rdX3 (f := ncell) (fun _ => rfl) rfl hown)
  have HB5 := Hidden.mk hb5
  clear hown hb5 HC
  try dsimp only
  go_wp2_with fail
  go_loopg [12, 29] DD.length (fun r nv jv wx => ∃ (j gn on cn : Nat), j ≤ DD.length ∧ r = DD.length - j ∧ jv = .int .i64 (j : Int) ∧ nv = .slice (some ⟨gn, on, none⟩) NL cn ∧ Hidden (Below w5.heap.size w5 wx ∧ NL ≤ cn ∧ RdO wx F gn on (ST (DD.take j))))
  case atStart => exact ⟨0, gb, ob, cb, by omega, rfl, rfl, rfl, ⟨Below.refl _ _, hcb, (HRB.out.below HB5.out).cong HSZ.out.symm⟩⟩
  case round =>
    obtain ⟨j, gn, on, cn, hj, rfl, rfl, rfl, hst⟩ := hrel
    have HN := Hidden.mk hst.out
    clear hst
    by_cases hjd : j < DD.length
    · have j1 : decide ((j : Int) < DD.length) = true := by simp; omega
      have j1' : decide (j < DD.length) = true := by simpa using hjd
      have k0 : (0 : Int) ≤ j := by omega
      have k1 : (j : Int) < DD.length := by omega
      have sj3 : IntKind.i64.wrap ((j : Int) + 1) = (j : Int) + 1 := IntWalk.i64_in _ (by omega)
      obtain ⟨pd, od, rfl, hcd⟩ := (HDX.out.below HN.out.1) j hjd
      have y0 := hcd 0 _ rfl
      rw [Nat.add_zero, Nat.mul_one] at y0
      obtain ⟨hgd, hld⟩ := HSW.out j hj
      have hF0 := HFR.out j hjd
      have HCF := Hidden.mk (rfree_all gn on NL cn (ST (DD.take j)) (DD[j] : Int) wr hld hgd HN.out.2.1 HN.out.2.2.rd)
      have HSJ := Hidden.mk (HSU.out j hjd)
      have HLJ := Hidden.mk (HSW.out (j + 1) hjd).2
      rw [hF0] at HCF
      generalize DD[j] = dj at *
      generalize hL2 : ST (DD.take (j + 1)) = L2 at *
      generalize ST (DD.take j) = L1 at *
      clear hcd hgd hld hF0
      try dsimp only
      go_wp2_with fail
      refine HCF.out.mono ?_
      rintro e w6 ⟨hb6, ⟨h0, ⟨g6, c6, rfl, hc6, hg6, hr6⟩⟩ | ⟨h0, rfl⟩⟩
      · have HN2 : Hidden (Below w5.heap.size w5 w6 ∧ NL ≤ c6 ∧ RdO w6 F g6 0 L2) := ⟨HN.out.1.trans (hb6.mono HN.out.1.size), hc6, by rw [HSJ.out]; exact hr6, fun hx => by
          have h1 := HP1.out.flt _ hx
          have h2 := HB5.out.size
          have h3 := HN.out.1.size
          omega, by rw [HLJ.out]; omega⟩
        clear hb6 h0 hc6 hg6 hr6 HCF y0
        try dsimp only
        go_wp2_with fail
        go_roundg (DD.length - (j + 1))
        case measure => omega
        case rel => exact ⟨j + 1, g6, 0, c6, by omega, rfl, by go_num, rfl, by rw [hL2]; exact HN2⟩
      · exact absurd rfl h0
    · obtain rfl : j = DD.length := by omega
      have j1 : decide ((DD.length : Int) < DD.length) = false := by simp
      have j1' : decide (DD.length < DD.length) = false := by simp
      have HBB := Hidden.mk (HB5.out.trans (HN.out.1.mono HB5.out.size))
      have HSX : Hidden (Good SW ∧ SW.length = NL) := ⟨by rw [HEN.out]; exact HSW.out _ (Nat.le_refl _)⟩
      have HRD : Hidden (RdO wr F gn on SW ∧ RdO wr F gb ob l ∧ NL ≤ cn) := ⟨by rw [HEN.out]; exact HN.out.2.2, HRB.out.below HBB.out, HN.out.2.1⟩
      have HPC := Hidden.mk (HPR.out wr (HP1.out.below HBB.out))
      clear HN HPR
      try dsimp only
      go_wp2_with fail
      refine HPC.out.mono ?_
      rintro e w6 ⟨rfl, F6, hm6⟩
      have HF6 := Hidden.mk (hpc_ok hm6 HSX.out.1 HSX.out.2 HRD.out.2.1 HRD.out.2.2 HRD.out.1)
      clear hm6 HPC HRD
      try dsimp only
      go_wp2_with fail
      exact hfin _ _ _ _ _ _ _ _ _ _ _ _ _ _ _ _ _ _ _ _ _ _ _ _ _ _ _ _ _ _ _ _ _ _ _ _ _ _ _ _ _ _ _ _ _ _ _ _ _ _ _ _ _ _ _ _ _ _ _ _ _ _ _ _ _ _ _ _ _ _ _ _ _ _ _ _ _ _ _ _ _ _ _ _ _ _ _ _ _ _ _ _ _ _ _ _ _ _ _ _ _ _ _ _ _ _ _ _ _ _ _ _ _ _ _ _ _ _ _ _ _ _ _ _ _ _ _ _ _ _ _ _ _ _ _ _ _ _ _ _ _ _ _ _ _ _ _ _ _ _ _ _ _ _ _ _ _ _ _ _ _ _ _ _ _ _ _ _ _ _ _ _ _ _ _ _ _ _ _ _ _ _ _ _ _ _ _ _ _ _ _ _ _ _ _ _ _ _ _ _ _ _ _ _ _ _ _ _ _ _ _ _ _ _ _ _ _ _ _ _ _ _ _ _ _ _ _ _ _ _ _ _ _ _ _ _ _ _ _ _ _ _ _ _ _ _ _ _ _ _ _ _ _ _ _ _ _ _ _ _ _ _ _ _ _ _ _ _ _ _ _ _ _ _ _ _ _ _ _ _ _ _ _ _ _ _ _ _ _ _ _ _ _ _ _ _ _ _ _ _ _ _ _ _ _ _ _ 0 _ _ _ _ HF6
end Go.Proofs.YtbnobjlphmkgeaaGreatDoor
