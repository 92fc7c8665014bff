/- Contracts and plain laws, put together: HeapPlaysKD. -/
import Derived.Test.YtbnobjlphmkgeaaGreatDoorHeapPlaysFrameM6
/- HeapPlays: the other cases of the switch. -/
namespace Go.Proofs.YtbnobjlphmkgeaaGreatDoor
open Go.RowKit Go.Maps Go.ChangeMaps

set_option maxRecDepth 1000000 in
set_option maxHeartbeats 8000000 in
theorem hp_caseD (Q : Exit → Act → World → Prop) (u1 u2 u3 u4 u5 u8 u9 u10 u13 u14 u15 u16 u17 u18 u19 u20 u21 u22 u23 u24 u25 u26 u27 u28 u29 u30 u31 u32 u33 u34 u35 u36 u37 u38 u39 u40 u41 u42 u43 u44 u45 u46 u47 u48 u49 u50 u51 u52 u53 u54 u55 u56 u57 u58 u59 u60 u61 u62 u63 u64 u65 u66 u67 u68 u69 u70 u71 u72 u73 u74 u75 u76 u77 u78 u79 u80 u81 u82 u83 u84 u86 u87 u88 u89 u90 u91 u92 u93 u94 u95 u96 u97 u98 u99 u100 u101 u102 u103 u104 u105 u106 u107 u108 u109 u110 u111 u112 u113 u114 u115 u116 u117 u118 u119 u120 u121 u122 u123 u124 u125 u126 u127 u128 u129 u130 u131 u132 u133 u134 u135 u136 u137 u138 u139 u140 u141 u142 u143 u144 u145 u146 u147 u148 u149 u150 u151 u152 u153 u154 u155 u156 u157 u158 u159 u160 u161 u162 u163 u164 u165 u166 u167 u168 u169 u170 u171 u172 u173 u174 u175 u176 u177 u178 u179 u180 u181 u182 u183 u184 u185 u186 u187 u188 u189 u190 u191 u192 u193 u194 u195 u196 u197 u198 u199 u200 u201 u202 u203 u204 u205 u206 u207 u208 u209 u210 u211 u212 u213 u214 u215 u216 u217 u218 u219 u220 u221 u222 u223 u224 u225 u226 u227 u228 u229 u230 u231 u232 u233 u234 u235 u236 u237 u238 u239 u240 u241 u242 u243 u244 u245 u246 u247 u248 u249 u250 u251 u252 u253 u254 u255 u256 u257 u258 u259 u260 u261 u262 u263 u264 u265 u266 u267 u268 u269 u270 u271 u272 u273 u274 u275 u276 u277 u278 u279 u280 u281 u282 u283 u284 u285 u286 u287 u288 u289 u290 u291 u292 u293 u294 u295 u296 u297 u298 u299 u300 u301 u302 u303 u304 u305 u306 u307 u308 u309 u310 u311 u312 u313 u314 u315 u316 u317 u318 u319 u320 u321 u322 u323 u324 u325 u326 u327 u328 u329 u330 u331 u332 u333 u334 u335 u336 u337 u338 u339 u340 u341 u342 u343 u344 u345 u346 u347 u348 u349 u350 u351 u352 u353 u354 u355 u356 u357 u358 u359 u360 u361 u362 u363 u364 u365 u366 u367 u368 u369 u370 u371 u372 u373 : Value) (w W1 : World) (F : Nat → Prop) (h gb ob cb NL bx : Nat) (l : Bytes) (what handle at_ len : Int) (name : Bytes) (bA : Option Addr) (bc : Nat) (body : Bytes) (HTY : Hidden (HasType w)) (hcb : NL ≤ cb) (hl0 : 0 < l.length) (hNb : 288 ≤ NL ∧ NL ≤ 6400) (HP1 : Hidden (Hp w W1 F h l)) (HRB : Hidden (RdO W1 F gb ob l)) (HLL : Hidden (l.length = NL ∧ Good l)) (H6 : Hidden (Six6 W1 bx (.int .i64 what) (.int .i64 handle) (.int .i64 at_) (.int .i64 len) (sv name) (.slice bA body.length bc) ∧ bx < W1.heap.size)) (HBO : Hidden (body.length ≤ bc ∧ bc ≤ 140737488351232 ∧ name.length ≤ 140737488351232 ∧ Rd W1 bA body)) (HLB : Hidden (-9223372036854775808 ≤ len ∧ len ≤ 9223372036854775807))
    (HER : Hidden (∀ (E : Nat) W, Below w.heap.size w W → Calls Tryz.prog 10 #[errV E, .int .i64 (E : Int)] W fun e w' => e = .returned (.bool true) ∧ Below W.heap.size W w')) (HER0 : Hidden (∀ W, Below w.heap.size w W → Calls Tryz.prog 10 #[.nilIface, .int .i64 0] W fun e w' => e = .returned (.bool true) ∧ Below W.heap.size W w')) (z1 : ¬ what = 1) (z2 : ¬ what = 2) (z3 : ¬ what = 3) (z4 : ¬ what = 4) (z5 : ¬ what = 5) (z8 : ¬ what = 8) (z9 : ¬ what = 9)
    (hfin : ∀ (x13 x14 x15 x16 x17 x18 x19 x20 x21 x22 x23 x24 x25 x26 x27 x28 x29 x30 x31 x32 x33 x34 x35 x36 x37 x38 x39 x40 x41 x42 x43 x44 x86 x87 x88 x89 x90 x91 x92 x93 x94 x95 x96 x97 x98 x99 x100 x101 x102 x103 x104 x105 x106 x107 x108 x109 x110 x111 x112 x113 x114 x115 x116 x117 x118 x119 x120 x121 x122 x123 x124 x125 x126 x127 x128 x129 x130 x131 x132 x133 x134 x135 x136 x137 x138 x139 x140 x141 x142 x143 x144 x145 x146 x147 x148 x149 x150 x151 x152 x153 x154 x155 x156 x157 x158 x159 x160 x161 x162 x163 x164 x165 x166 x167 x168 x169 x170 x171 x172 x173 x174 x175 x176 x177 x178 x179 x180 x181 x182 x183 x184 x185 x186 x187 x188 x189 x190 x191 x192 x193 x194 x195 x196 x197 x198 x199 x200 x201 x202 x203 x204 x205 x206 x207 x208 x209 x210 x211 x212 x213 x214 x215 x216 x217 x218 x219 x220 x221 x222 x223 x224 x225 x226 x227 x228 x229 x230 x231 x232 x233 x234 x235 x236 x237 x238 x239 x240 x241 x242 x243 x244 x245 x246 x247 x248 x249 x250 x251 x252 x253 x254 x255 x256 x257 x258 x259 x260 x261 x262 x263 x264 x265 x266 x267 x268 x269 x270 x271 x272 x273 x274 x275 x276 x277 x278 x279 x280 x281 x282 x283 x284 x285 x286 x287 x288 x289 x290 x291 x292 x293 x294 x295 x296 x297 x298 x299 x300 x301 x302 x303 x304 x305 x306 x307 x308 x309 x310 x311 x312 x313 x314 x315 x316 x317 x318 x319 x320 x321 x322 x323 x324 x325 x326 x327 x328 x329 x330 x331 x332 x333 x334 x335 x336 x337 x338 x339 x340 x341 x342 x343 x344 x345 x346 x347 x348 x349 x350 x351 x352 x353 x354 x355 x356 x357 x358 x359 x360 : Value) (E : Nat) (F2 : Nat → Prop) (l2 : Bytes) (nv : Value) (wx : World), Hidden (HpCut w wx F2 h gb ob NL E l l2 nv) → Q .normal ⟨#[.slice (some ⟨gb, ob, none⟩) NL cb, u1, u2, u3, u4, u5, .int .i64 (E : Int), .pointer (some ⟨h, 0, none⟩), u8, .bool true, u10, .pointer (some ⟨bx, 0, none⟩), nv, x13, x14, x15, x16, x17, x18, x19, x20, x21, x22, x23, x24, x25, x26, x27, x28, x29, x30, x31, x32, x33, x34, x35, x36, x37, x38, x39, x40, x41, x42, x43, x44, u45, u46, u47, u48, u49, u50, u51, u52, u53, u54, u55, u56, u57, u58, u59, u60, u61, u62, u63, u64, u65, u66, u67, u68, u69, u70, u71, u72, u73, u74, u75, u76, u77, u78, u79, u80, u81, u82, u83, u84, .int .i64 what, x86, x87, x88, x89, x90, x91, x92, x93, x94, x95, x96, x97, x98, x99, x100, x101, x102, x103, x104, x105, x106, x107, x108, x109, x110, x111, x112, x113, x114, x115, x116, x117, x118, x119, x120, x121, x122, x123, x124, x125, x126, x127, x128, x129, x130, x131, x132, x133, x134, x135, x136, x137, x138, x139, x140, x141, x142, x143, x144, x145, x146, x147, x148, x149, x150, x151, x152, x153, x154, x155, x156, x157, x158, x159, x160, x161, x162, x163, x164, x165, x166, x167, x168, x169, x170, x171, x172, x173, x174, x175, x176, x177, x178, x179, x180, x181, x182, x183, x184, x185, x186, x187, x188, x189, x190, x191, x192, x193, x194, x195, x196, x197, x198, x199, x200, x201, x202, x203, x204, x205, x206, x207, x208, x209, x210, x211, x212, x213, x214, x215, x216, x217, x218, x219, x220, x221, x222, x223, x224, x225, x226, x227, x228, x229, x230, x231, x232, x233, x234, x235, x236, x237, x238, x239, x240, x241, x242, x243, x244, x245, x246, x247, x248, x249, x250, x251, x252, x253, x254, x255, x256, x257, x258, x259, x260, x261, x262, x263, x264, x265, x266, x267, x268, x269, x270, x271, x272, x273, x274, x275, x276, x277, x278, x279, x280, x281, x282, x283, x284, x285, x286, x287, x288, x289, x290, x291, x292, x293, x294, x295, x296, x297, x298, x299, x300, x301, x302, x303, x304, x305, x306, x307, x308, x309, x310, x311, x312, x313, x314, x315, x316, x317, x318, x319, x320, x321, x322, x323, x324, x325, x326, x327, x328, x329, x330, x331, x332, x333, x334, x335, x336, x337, x338, x339, x340, x341, x342, x343, x344, x345, x346, x347, x348, x349, x350, x351, x352, x353, x354, x355, x356, x357, x358, x359, x360, u361, u362, u363, u364, u365, u366, u367, u368, u369, u370, u371, u372, u373], []⟩ wx) :
    Code.wp Tryz.prog hpSw Q ⟨#[.slice (some ⟨gb, ob, none⟩) NL cb, u1, u2, u3, u4, u5, .int .i64 0, .pointer (some ⟨h, 0, none⟩), u8, u9, u10, .pointer (some ⟨bx, 0, none⟩), .slice none 0 0, u13, u14, u15, u16, u17, u18, u19, u20, u21, u22, u23, u24, u25, u26, u27, u28, u29, u30, u31, u32, u33, u34, u35, u36, u37, u38, u39, u40, u41, u42, u43, u44, u45, u46, u47, u48, u49, u50, u51, u52, u53, u54, u55, u56, u57, u58, u59, u60, u61, u62, u63, u64, u65, u66, u67, u68, u69, u70, u71, u72, u73, u74, u75, u76, u77, u78, u79, u80, u81, u82, u83, u84, .int .i64 what, u86, u87, u88, u89, u90, u91, u92, u93, u94, u95, u96, u97, u98, u99, u100, u101, u102, u103, u104, u105, u106, u107, u108, u109, u110, u111, u112, u113, u114, u115, u116, u117, u118, u119, u120, u121, u122, u123, u124, u125, u126, u127, u128, u129, u130, u131, u132, u133, u134, u135, u136, u137, u138, u139, u140, u141, u142, u143, u144, u145, u146, u147, u148, u149, u150, u151, u152, u153, u154, u155, u156, u157, u158, u159, u160, u161, u162, u163, u164, u165, u166, u167, u168, u169, u170, u171, u172, u173, u174, u175, u176, u177, u178, u179, u180, u181, u182, u183, u184, u185, u186, u187, u188, u189, u190, u191, u192, u193, u194, u195, u196, u197, u198, u199, u200, u201, u202, u203, u204, u205, u206, u207, u208, u209, u210, u211, u212, u213, u214, u215, u216, u217, u218, u219, u220, u221, u222, u223, u224, u225, u226, u227, u228, u229, u230, u231, u232, u233, u234, u235, u236, u237, u238, u239, u240, u241, u242, u243, u244, u245, u246, u247, u248, u249, u250, u251, u252, u253, u254, u255, u256, u257, u258, u259, u260, u261, u262, u263, u264, u265, u266, u267, u268, u269, u270, u271, u272, u273, u274, u275, u276, u277, u278, u279, u280, u281, u282, u283, u284, u285, u286, u287, u288, u289, u290, u291, u292, u293, u294, u295, u296, u297, u298, u299, u300, u301, u302, u303, u304, u305, u306, u307, u308, u309, u310, u311, u312, u313, u314, u315, u316, u317, u318, u319, u320, u321, u322, u323, u324, u325, u326, u327, u328, u329, u330, u331, u332, u333, u334, u335, u336, u337, u338, u339, u340, u341, u342, u343, u344, u345, u346, u347, u348, u349, u350, u351, u352, u353, u354, u355, u356, u357, u358, u359, u360, u361, u362, u363, u364, u365, u366, u367, u368, u369, u370, u371, u372, u373], []⟩ W1 := by
  conv => arg 2; whnf
  obtain ⟨c0, c1, c2, c3', c4, c5⟩ := H6.out.1
  have q1 : (what == 1) = false := by simpa using z1
  have q2 : (what == 2) = false := by simpa using z2
  have q3 : (what == 3) = false := by simpa using z3
  have q4 : (what == 4) = false := by simpa using z4
  have q5 : (what == 5) = false := by simpa using z5
  have q8 : (what == 8) = false := by simpa using z8
  have q9 : (what == 9) = false := by simpa using z9
  clear z1 z2 z3 z4 z5 z8 z9
  have HPT := Hidden.mk (rpart_all gb ob NL cb l handle at_ len W1 HLL.out.1 HLL.out.2 hcb HRB.out.rd)
  obtain ⟨pv, hpv⟩ : ∃ x : Int, (if someE l handle at_ len = 0 then gA l handle + at_ else 0) = x := ⟨_, rfl⟩
  rw [hpv] at HPT
  have HPV := Hidden.mk hpv
  clear hpv
  obtain ⟨sE, hsE⟩ : ∃ x, someE l handle at_ len = x := ⟨_, rfl⟩
  rw [hsE] at HPT
  have HSE := Hidden.mk hsE
  clear hsE
  try dsimp only
  go_wp2_with fail
  refine HPT.out.mono ?_
  rintro e w5 ⟨rfl, hb5⟩
  have HB5 := Hidden.mk hb5
  have H65 := Hidden.mk (And.intro (H6.out.1.below hb5 H6.out.2) (Nat.lt_of_lt_of_le H6.out.2 hb5.size))
  have HRD5 := Hidden.mk (HRB.out.rd.below hb5)
  obtain ⟨c0, c1, c2, c3', c4, c5⟩ := H65.out.1
  clear hb5 HPT
  try dsimp only
  go_upto_if 98 with (fail)
  go_cut [34] from 98 to 106 (fun v wx => v = sv (readL l handle at_ len) ∧ w5 = wx)
  case first =>
    by_cases h0 : sE = 0
    · have h0' := HSE.out.trans h0
      obtain ⟨-, h1, h2, h3, h4, h5, h6', h7⟩ := some_in HLL.out.2 h0'
      obtain ⟨kk, hkk⟩ := Int.eq_ofNat_of_zero_le (show 0 ≤ gA l handle + at_ by omega)
      obtain ⟨n', rfl⟩ := Int.eq_ofNat_of_zero_le h2
      have hpk : pv = (kk : Int) := by rw [← HPV.out, if_pos h0', hkk]
      have hrl : readL l handle at_ (n' : Int) = (l.drop kk).take n' := by
        unfold readL
        rw [if_pos h0', hkk]
        simp
      have hin : kk + n' ≤ NL := by have := HLL.out.1; omega
      have hll : ((l.drop kk).take n').length = n' := by have := HLL.out.1; simp; omega
      obtain ⟨A9, hA9⟩ : ∃ A9 : Option Addr, (if cb = kk then (some ⟨gb, ob, none⟩ : Option Addr) else (some (⟨gb, ob, none⟩ : Addr)).map (·.add kk)) = A9 := ⟨_, rfl⟩
      have hcut2 := run_cutA (some ⟨gb, ob, none⟩) NL cb kk (kk + n') (by omega) (by omega)
      rw [Nat.add_sub_cancel_left, hA9] at hcut2
      simp only [Int.natCast_add] at hcut2
      have hrd2 : Rd w5 A9 ((l.drop kk).take n') := by rw [← hA9]; exact HRD5.out.cutIf kk n' cb (by have := HLL.out.1; omega) (by have := HLL.out.1; omega)
      have hcv := fun W (hW : Below w5.heap.size w5 W) => conv_text W A9 n' (cb - kk) _ hll (hrd2.below hW)
      have hcv0 := hcv w5 (Below.refl _ _)
      have s2 : IntKind.i64.wrap ((kk : Int) + (n' : Int)) = (kk : Int) + (n' : Int) := IntWalk.i64_in _ (by omega)
      have HRL2 := Hidden.mk hrl
      generalize (l.drop kk).take n' = RL at *
      subst h0 hpk
      clear h0' h1 h2 h3 h4 h5 h6' h7 hkk hrl hll hrd2 hcv hA9 HPV HSE
      try dsimp only
      go_wp2_with fail
      go_meet
      exact ⟨(by rw [HRL2.out]; first | done | rfl), rfl⟩
    · have d1 : ((sE : Int) == 0) = false := by simpa using h0
      have hrl : readL l handle at_ len = [] := by unfold readL; rw [if_neg (by rw [HSE.out]; exact h0)]
      have HRL2 := Hidden.mk hrl
      clear h0 hrl
      try simp only [d1]
      try dsimp only
      go_wp2_with fail
      go_meet
      exact ⟨(by rw [HRL2.out]; first | done | rfl), rfl⟩
  case rest =>
  obtain ⟨rfl, rfl⟩ := hcut
  have HP5 := Hidden.mk (HP1.out.below HB5.out)
  have HRR := Hidden.mk (hread_any handle at_ len HP5.out HLL.out.2 HLB.out.2)
  rw [HSE.out] at HRR
  have eR : (readL l handle at_ len == readL l handle at_ len) = true := beq_self_eq_true _
  generalize readL l handle at_ len = RL at *
  try dsimp only
  go_wp2_with fail
  refine HRR.out.mono ?_
  rintro e w6 ⟨A6, c6, rfl, hc6, hrd6, -, hb6⟩
  have HB6 := Hidden.mk (HB5.out.trans (hb6.mono HB5.out.size))
  have HP6 := Hidden.mk (HP5.out.below hb6)
  have HRL6 := Hidden.mk hrd6
  have H66 := Hidden.mk (And.intro (H65.out.1.below hb6 H65.out.2) (Nat.lt_of_lt_of_le H65.out.2 hb6.size))
  clear hc6 hrd6 hb6 HRR HP5 H65 c0 c1 c2 c3' c4 c5
  try dsimp only
  go_wp2_with fail
  refine (HER.out sE _ HP6.out.bel).mono ?_
  rintro e w7 ⟨rfl, hb7⟩
  have HB7 := Hidden.mk (HB6.out.trans (hb7.mono HB6.out.size))
  have HP7 := Hidden.mk (HP6.out.below hb7)
  have hcv7 := conv_text w7 A6 RL.length c6 RL rfl (HRL6.out.below hb7)
  have H67 := Hidden.mk (And.intro (H66.out.1.below hb7 H66.out.2) (Nat.lt_of_lt_of_le H66.out.2 hb7.size))
  obtain ⟨c0, c1, c2, c3', c4, c5⟩ := H67.out.1
  have HHH := Hidden.mk (rhandle_any gb ob NL cb l handle w7 HLL.out.1 HLL.out.2 hcb (HRB.out.rd.below HB7.out))
  obtain ⟨hv, hhv⟩ : ∃ x, hE l handle = x := ⟨_, rfl⟩
  rw [hhv] at HHH
  have HHV := Hidden.mk hhv
  clear hb7 HP6 HB6 H66 HRL6 hhv
  try dsimp only
  go_wp2_with fail
  refine HHH.out.mono ?_
  rintro e w8 ⟨rfl, hb8⟩
  have HB8 := Hidden.mk (HB7.out.trans (hb8.mono HB7.out.size))
  have HP8 := Hidden.mk (HP7.out.below hb8)
  have H68 := Hidden.mk (And.intro (H67.out.1.below hb8 H67.out.2) (Nat.lt_of_lt_of_le H67.out.2 hb8.size))
  clear hb8 HP7 HB7 H67 HHH hcv7 c0 c1 c2 c3' c4 c5
  obtain ⟨c0, c1, c2, c3', c4, c5⟩ := H68.out.1
  try dsimp only
  go_upto_if 133 with (fail)
  go_cut [37, 38, 39, 40] from 133 to 145 (fun zv tv _ _ wx => zv = .int .i64 (gL l handle) ∧ tv = .int .i64 (gT l handle) ∧ Hidden (Below w8.heap.size w8 wx))
  case first =>
    by_cases h0 : hv = 0
    · have h0' := HHV.out.trans h0
      obtain ⟨kk, hkk, rfl, hh, hR⟩ := hE_zero h0'
      have hgL : gL l ((kk : Int) + 1) = rLen (rawE l kk) := by unfold gL; rw [if_pos h0', hR]
      have hgT : gT l ((kk : Int) + 1) = rTag (rawE l kk) := by unfold gT; rw [if_pos h0', hR]
      have HEN : Hidden (Calls Tryz.prog 29 #[.slice (some ⟨gb, ob, none⟩) NL cb, .int .i64 ((kk : Int) + 1)] w8 fun e w' => e = .returned (.tuple #[.agg #[.int .i64 ((kk : Int) + 1), .int .i64 (rAt (rawE l kk) : Int), .int .i64 (rLen (rawE l kk) : Int), .int .i64 (rTag (rawE l kk))], .bool (hasE (rawE l kk))]) ∧ Below w8.heap.size w8 w') := ⟨refEntry_ok _ NL cb l kk w8 HLL.out.1 (by omega) hcb (HRB.out.rd.below HB8.out) hkk⟩
      have HGL2 := Hidden.mk (And.intro hgL hgT)
      generalize hasE (rawE l kk) = hs at *
      generalize rTag (rawE l kk) = a3 at *
      generalize rAt (rawE l kk) = a1 at *
      generalize rLen (rawE l kk) = a2 at *
      subst h0
      clear h0' hh hR hgL hgT HHV
      try dsimp only
      go_wp2_with fail
      refine HEN.out.mono ?_
      rintro e w9 ⟨rfl, hb9⟩
      have HB9 := Hidden.mk (hb9.alloc hb9.size (.cells #[.int .i64 ((kk : Int) + 1), .int .i64 (a1 : Int), .int .i64 (a2 : Int), .int .i64 a3] 66))
      obtain ⟨f0, f1, f2, f3⟩ := fourAt_one w9 ((kk : Int) + 1) (a1 : Int) (a2 : Int) a3 66
      clear hb9 HEN
      try dsimp only
      go_wp2_with fail
      go_meet
      exact ⟨(by rw [HGL2.out.1]; first | done | rfl), (by rw [HGL2.out.2]; first | done | rfl), HB9⟩
    · have d1 : ((hv : Int) == 0) = false := by simpa using h0
      have hgL : gL l handle = 0 := by unfold gL; rw [if_neg (by rw [HHV.out]; exact h0)]
      have hgT : gT l handle = 0 := by unfold gT; rw [if_neg (by rw [HHV.out]; exact h0)]
      have HGL2 := Hidden.mk (And.intro hgL hgT)
      clear h0 hgL hgT
      try simp only [d1]
      try dsimp only
      go_wp2_with fail
      go_meet
      exact ⟨(by rw [HGL2.out.1]; first | done | rfl), (by rw [HGL2.out.2]; first | done | rfl), ⟨Below.refl _ _⟩⟩
  case rest =>
  obtain ⟨rfl, rfl, hb9⟩ := hcut
  have HP9 := Hidden.mk (HP8.out.below hb9.out)
  have HB9 := Hidden.mk (HB8.out.trans (hb9.out.mono HB8.out.size))
  have H69 := Hidden.mk (And.intro (H68.out.1.below hb9.out H68.out.2) (Nat.lt_of_lt_of_le H68.out.2 hb9.out.size))
  have HSZ := Hidden.mk (fun W (hW : Hp w W F h l) => hsize_any handle hW)
  have HTG := Hidden.mk (fun W (hW : Hp w W F h l) => htag_any handle hW)
  rw [HHV.out] at HSZ HTG
  generalize gL l handle = gl at *
  generalize gT l handle = gt at *
  clear hb9 HP8 HB8 H68 c0 c1 c2 c3' c4 c5
  obtain ⟨c0, c1, c2, c3', c4, c5⟩ := H69.out.1
  try dsimp only
  go_wp2_with fail
  refine (HSZ.out _ HP9.out).mono ?_
  rintro e w10 ⟨rfl, hb10⟩
  have HP10 := Hidden.mk (HP9.out.below hb10)
  have HB10 := Hidden.mk (HB9.out.trans (hb10.mono HB9.out.size))
  have H610 := Hidden.mk (And.intro (H69.out.1.below hb10 H69.out.2) (Nat.lt_of_lt_of_le H69.out.2 hb10.size))
  clear hb10 HP9 HB9 H69 c0 c1 c2 c3' c4 c5
  try dsimp only
  go_wp2_with fail
  refine (HER.out hv _ HP10.out.bel).mono ?_
  rintro e w11 ⟨rfl, hb11⟩
  have HP11 := Hidden.mk (HP10.out.below hb11)
  have HB11 := Hidden.mk (HB10.out.trans (hb11.mono HB10.out.size))
  obtain ⟨c0, c1, c2, c3', c4, c5⟩ := H610.out.1.below hb11 H610.out.2
  clear hb11 HP10 HB10 H610
  try dsimp only
  go_wp2_with fail
  refine (HTG.out _ HP11.out).mono ?_
  rintro e w12 ⟨rfl, hb12⟩
  have HP12 := Hidden.mk (HP11.out.below hb12)
  have HB12 := Hidden.mk (HB11.out.trans (hb12.mono HB11.out.size))
  clear hb12 HP11 HB11 c0 c1 c2 c3' c4 c5
  try dsimp only
  go_wp2_with fail
  refine (HER.out hv _ HP12.out.bel).mono ?_
  rintro e w13 ⟨rfl, hb13⟩
  have HP13 := Hidden.mk (HP12.out.below hb13)
  have HB13 := Hidden.mk (HB12.out.trans (hb13.mono HB12.out.size))
  clear hb13 HP12 HB12
  have HF : Hidden (HpCut w w13 F h gb ob NL 0 l l (.slice (some ⟨gb, ob, none⟩) NL cb)) := ⟨⟨HP13.out, HLL.out.2, HLL.out.1, HRB.out.below HB13.out, fun _ => ⟨gb, ob, cb, rfl, hcb, HRB.out.below HB13.out⟩, fun h => absurd rfl h⟩⟩
  clear HP13 HB13
  try dsimp only
  go_wp2_with fail
  exact hfin _ _ _ _ _ _ _ _ _ _ _ _ _ _ _ _ _ _ _ _ _ _ _ _ _ _ _ _ _ _ _ _ _ _ _ _ _ _ _ _ _ _ _ _ _ _ _ _ _ _ _ _ _ _ _ _ _ _ _ _ _ _ _ _ _ _ _ _ _ _ _ _ _ _ _ _ _ _ _ _ _ _ _ _ _ _ _ _ _ _ _ _ _ _ _ _ _ _ _ _ _ _ _ _ _ _ _ _ _ _ _ _ _ _ _ _ _ _ _ _ _ _ _ _ _ _ _ _ _ _ _ _ _ _ _ _ _ _ _ _ _ _ _ _ _ _ _ _ _ _ _ _ _ _ _ _ _ _ _ _ _ _ _ _ _ _ _ _ _ _ _ _ _ _ _ _ _ _ _ _ _ _ _ _ _ _ _ _ _ _ _ _ _ _ _ _ _ _ _ _ _ _ _ _ _ _ _ _ _ _ _ _ _ _ _ _ _ _ _ _ _ _ _ _ _ _ _ _ _ _ _ _ _ _ _ _ _ _ _ _ _ _ _ _ _ _ _ _ _ _ _ _ _ _ _ _ _ _ _ _ _ _ _ _ _ _ _ _ _ _ _ _ _ _ _ _ _ _ _ _ _ _ _ _ _ _ _ _ _ _ _ _ _ _ _ _ _ _ _ _ _ _ _ _ _ _ _ 0 _ _ _ _ HF
end Go.Proofs.YtbnobjlphmkgeaaGreatDoor
