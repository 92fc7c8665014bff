/- Contracts and plain laws, put together: HeapPlaysL. -/
import Derived.Test.YtbnobjlphmkgeaaGreatDoorHeapPlaysFrameM9
/- HeapPlays: the loop. -/
namespace Go.Proofs.YtbnobjlphmkgeaaGreatDoor
open Go.RowKit Go.Maps Go.ChangeMaps

set_option maxRecDepth 1000000 in
set_option maxHeartbeats 8000000 in
theorem hp_loop (Q : Exit → Act → World → Prop) (u2 u3 u4 u5 u6 u8 u9 u11 u12 u13 u14 u15 u16 u17 u18 u19 u20 u21 u22 u23 u24 u25 u26 u27 u28 u29 u30 u31 u32 u33 u34 u35 u36 u37 u38 u39 u40 u41 u42 u43 u44 u45 u46 u47 u48 u49 u50 u51 u52 u53 u54 u55 u56 u57 u58 u59 u60 u61 u62 u63 u64 u65 u66 u67 u68 u69 u70 u71 u72 u73 u74 u75 u76 u77 u78 u79 u80 u81 u82 u83 u84 u85 u86 u87 u88 u89 u90 u91 u92 u93 u94 u95 u96 u97 u98 u99 u100 u101 u102 u103 u104 u105 u106 u107 u108 u109 u110 u111 u112 u113 u114 u115 u116 u117 u118 u119 u120 u121 u122 u123 u124 u125 u126 u127 u128 u129 u130 u131 u132 u133 u134 u135 u136 u137 u138 u139 u140 u141 u142 u143 u144 u145 u146 u147 u148 u149 u150 u151 u152 u153 u154 u155 u156 u157 u158 u159 u160 u161 u162 u163 u164 u165 u166 u167 u168 u169 u170 u171 u172 u173 u174 u175 u176 u177 u178 u179 u180 u181 u182 u183 u184 u185 u186 u187 u188 u189 u190 u191 u192 u193 u194 u195 u196 u197 u198 u199 u200 u201 u202 u203 u204 u205 u206 u207 u208 u209 u210 u211 u212 u213 u214 u215 u216 u217 u218 u219 u220 u221 u222 u223 u224 u225 u226 u227 u228 u229 u230 u231 u232 u233 u234 u235 u236 u237 u238 u239 u240 u241 u242 u243 u244 u245 u246 u247 u248 u249 u250 u251 u252 u253 u254 u255 u256 u257 u258 u259 u260 u261 u262 u263 u264 u265 u266 u267 u268 u269 u270 u271 u272 u273 u274 u275 u276 u277 u278 u279 u280 u281 u282 u283 u284 u285 u286 u287 u288 u289 u290 u291 u292 u293 u294 u295 u296 u297 u298 u299 u300 u301 u302 u303 u304 u305 u306 u307 u308 u309 u310 u311 u312 u313 u314 u315 u316 u317 u318 u319 u320 u321 u322 u323 u324 u325 u326 u327 u328 u329 u330 u331 u332 u333 u334 u335 u336 u337 u338 u339 u340 u341 u342 u343 u344 u345 u346 u347 u348 u349 u350 u351 u352 u353 u354 u355 u356 u357 u358 u359 u360 u361 u362 u363 u364 u365 u366 u367 u368 u369 u370 u371 u372 u373 : Value) (OA : Option Addr) (oc m : Nat) (L : List OpX) (w W0 : World) (F : Nat → Prop) (h gb ob cb NL : Nat) (l : Bytes) (HTY : Hidden (HasType w)) (HL : Hidden (RdX ocells 6 w OA L ∧ (∀ x ∈ L, OpOk w x) ∧ L.length = m ∧ HasType w)) (hNb : 288 ≤ NL ∧ NL ≤ 6400) (HS0 : Hidden (HpLp w W0 F h gb ob cb NL l))
    (HPAN : Hidden (∀ ch (a : Act) t (v : Value) wx, Q (.panic ch) (a.put (some t) v) wx → Q (.panic ch) a wx))
    (hexit : ∀ (x0 x4 x6 x9 x10 x11 x12 x13 x14 x15 x16 x17 x18 x19 x20 x21 x22 x23 x24 x25 x26 x27 x28 x29 x30 x31 x32 x33 x34 x35 x36 x37 x38 x39 x40 x41 x42 x43 x44 x70 x71 x72 x73 x74 x75 x76 x77 x78 x79 x80 x81 x82 x83 x84 x85 x86 x87 x88 x89 x90 x91 x92 x93 x94 x95 x96 x97 x98 x99 x100 x101 x102 x103 x104 x105 x106 x107 x108 x109 x110 x111 x112 x113 x114 x115 x116 x117 x118 x119 x120 x121 x122 x123 x124 x125 x126 x127 x128 x129 x130 x131 x132 x133 x134 x135 x136 x137 x138 x139 x140 x141 x142 x143 x144 x145 x146 x147 x148 x149 x150 x151 x152 x153 x154 x155 x156 x157 x158 x159 x160 x161 x162 x163 x164 x165 x166 x167 x168 x169 x170 x171 x172 x173 x174 x175 x176 x177 x178 x179 x180 x181 x182 x183 x184 x185 x186 x187 x188 x189 x190 x191 x192 x193 x194 x195 x196 x197 x198 x199 x200 x201 x202 x203 x204 x205 x206 x207 x208 x209 x210 x211 x212 x213 x214 x215 x216 x217 x218 x219 x220 x221 x222 x223 x224 x225 x226 x227 x228 x229 x230 x231 x232 x233 x234 x235 x236 x237 x238 x239 x240 x241 x242 x243 x244 x245 x246 x247 x248 x249 x250 x251 x252 x253 x254 x255 x256 x257 x258 x259 x260 x261 x262 x263 x264 x265 x266 x267 x268 x269 x270 x271 x272 x273 x274 x275 x276 x277 x278 x279 x280 x281 x282 x283 x284 x285 x286 x287 x288 x289 x290 x291 x292 x293 x294 x295 x296 x297 x298 x299 x300 x301 x302 x303 x304 x305 x306 x307 x308 x309 x310 x311 x312 x313 x314 x315 x316 x317 x318 x319 x320 x321 x322 x323 x324 x325 x326 x327 x328 x329 x330 x331 x332 x333 x334 x335 x336 x337 x338 x339 x340 x341 x342 x343 x344 x345 x346 x347 x348 x349 x350 x351 x352 x353 x354 x355 x356 x357 x358 x359 x360 x361 x362 x363 x364 x365 x366 x367 x368 x369 x370 x371 x372 x373 : Value) (wx : World), Hidden (Below w.heap.size w wx) → Q .normal ⟨#[x0, .slice OA m oc, u2, u3, x4, u5, x6, .pointer (some ⟨h, 0, none⟩), u8, x9, x10, x11, x12, x13, x14, x15, x16, x17, x18, x19, x20, x21, x22, x23, x24, x25, x26, x27, x28, x29, x30, x31, x32, x33, x34, x35, x36, x37, x38, x39, x40, x41, x42, x43, x44, u45, u46, u47, u48, u49, u50, u51, u52, u53, u54, u55, u56, u57, u58, u59, u60, u61, u62, u63, u64, u65, u66, u67, u68, u69, x70, x71, x72, x73, x74, x75, x76, x77, x78, x79, x80, x81, x82, x83, x84, x85, x86, x87, x88, x89, x90, x91, x92, x93, x94, x95, x96, x97, x98, x99, x100, x101, x102, x103, x104, x105, x106, x107, x108, x109, x110, x111, x112, x113, x114, x115, x116, x117, x118, x119, x120, x121, x122, x123, x124, x125, x126, x127, x128, x129, x130, x131, x132, x133, x134, x135, x136, x137, x138, x139, x140, x141, x142, x143, x144, x145, x146, x147, x148, x149, x150, x151, x152, x153, x154, x155, x156, x157, x158, x159, x160, x161, x162, x163, x164, x165, x166, x167, x168, x169, x170, x171, x172, x173, x174, x175, x176, x177, x178, x179, x180, x181, x182, x183, x184, x185, x186, x187, x188, x189, x190, x191, x192, x193, x194, x195, x196, x197, x198, x199, x200, x201, x202, x203, x204, x205, x206, x207, x208, x209, x210, x211, x212, x213, x214, x215, x216, x217, x218, x219, x220, x221, x222, x223, x224, x225, x226, x227, x228, x229, x230, x231, x232, x233, x234, x235, x236, x237, x238, x239, x240, x241, x242, x243, x244, x245, x246, x247, x248, x249, x250, x251, x252, x253, x254, x255, x256, x257, x258, x259, x260, x261, x262, x263, x264, x265, x266, x267, x268, x269, x270, x271, x272, x273, x274, x275, x276, x277, x278, x279, x280, x281, x282, x283, x284, x285, x286, x287, x288, x289, x290, x291, x292, x293, x294, x295, x296, x297, x298, x299, x300, x301, x302, x303, x304, x305, x306, x307, x308, x309, x310, x311, x312, x313, x314, x315, x316, x317, x318, x319, x320, x321, x322, x323, x324, x325, x326, x327, x328, x329, x330, x331, x332, x333, x334, x335, x336, x337, x338, x339, x340, x341, x342, x343, x344, x345, x346, x347, x348, x349, x350, x351, x352, x353, x354, x355, x356, x357, x358, x359, x360, x361, x362, x363, x364, x365, x366, x367, x368, x369, x370, x371, x372, x373], []⟩ wx) :
    Code.wp Tryz.prog hpLoop Q ⟨#[.slice (some ⟨gb, ob, none⟩) NL cb, .slice OA m oc, u2, u3, u4, u5, u6, .pointer (some ⟨h, 0, none⟩), u8, u9, .int .i64 0, u11, u12, u13, u14, u15, u16, u17, u18, u19, u20, u21, u22, u23, u24, u25, u26, u27, u28, u29, u30, u31, u32, u33, u34, u35, u36, u37, u38, u39, u40, u41, u42, u43, u44, u45, u46, u47, u48, u49, u50, u51, u52, u53, u54, u55, u56, u57, u58, u59, u60, u61, u62, u63, u64, u65, u66, u67, u68, u69, u70, u71, u72, u73, u74, u75, u76, u77, u78, u79, u80, u81, u82, u83, u84, u85, u86, u87, u88, u89, u90, u91, u92, u93, u94, u95, u96, u97, u98, u99, u100, u101, u102, u103, u104, u105, u106, u107, u108, u109, u110, u111, u112, u113, u114, u115, u116, u117, u118, u119, u120, u121, u122, u123, u124, u125, u126, u127, u128, u129, u130, u131, u132, u133, u134, u135, u136, u137, u138, u139, u140, u141, u142, u143, u144, u145, u146, u147, u148, u149, u150, u151, u152, u153, u154, u155, u156, u157, u158, u159, u160, u161, u162, u163, u164, u165, u166, u167, u168, u169, u170, u171, u172, u173, u174, u175, u176, u177, u178, u179, u180, u181, u182, u183, u184, u185, u186, u187, u188, u189, u190, u191, u192, u193, u194, u195, u196, u197, u198, u199, u200, u201, u202, u203, u204, u205, u206, u207, u208, u209, u210, u211, u212, u213, u214, u215, u216, u217, u218, u219, u220, u221, u222, u223, u224, u225, u226, u227, u228, u229, u230, u231, u232, u233, u234, u235, u236, u237, u238, u239, u240, u241, u242, u243, u244, u245, u246, u247, u248, u249, u250, u251, u252, u253, u254, u255, u256, u257, u258, u259, u260, u261, u262, u263, u264, u265, u266, u267, u268, u269, u270, u271, u272, u273, u274, u275, u276, u277, u278, u279, u280, u281, u282, u283, u284, u285, u286, u287, u288, u289, u290, u291, u292, u293, u294, u295, u296, u297, u298, u299, u300, u301, u302, u303, u304, u305, u306, u307, u308, u309, u310, u311, u312, u313, u314, u315, u316, u317, u318, u319, u320, u321, u322, u323, u324, u325, u326, u327, u328, u329, u330, u331, u332, u333, u334, u335, u336, u337, u338, u339, u340, u341, u342, u343, u344, u345, u346, u347, u348, u349, u350, u351, u352, u353, u354, u355, u356, u357, u358, u359, u360, u361, u362, u363, u364, u365, u366, u367, u368, u369, u370, u371, u372, u373], []⟩ W0 := by
  conv => arg 2; whnf
  try dsimp only
  go_wp2_with fail
  try dsimp only
  go_loopg [0, 10] 40 (fun r bv iv wr => ∃ (k : Nat) (F : Nat → Prop) (l : Bytes) (gb ob cb : Nat), k ≤ 40 ∧ r = 40 - k ∧ iv = .int .i64 (k : Int) ∧ bv = .slice (some ⟨gb, ob, none⟩) NL cb ∧ Hidden (HpLp w wr F h gb ob cb NL l))
  case atStart => exact ⟨0, F, l, gb, ob, cb, by omega, rfl, rfl, rfl, HS0⟩
  case round =>
    obtain ⟨k, F, l, gb, ob, cb, hk, rfl, rfl, rfl, hst⟩ := hrel
    have HS := Hidden.mk hst.out
    clear hst
    have hBw := HS.out.hp.bel
    by_cases hlt : k < m
    rotate_left
    · have e1 : decide ((k : Int) < m) = false := by simp; omega
      have e1' : decide (k < m) = false := by simpa using hlt
      have HBW := Hidden.mk hBw
      clear hlt hBw
      try dsimp only
      go_wp2_with fail
      exact HBW
    have e1 : decide ((k : Int) < m) = true := by simp; omega
    have e1' : decide (k < m) = true := by simpa using hlt
    by_cases h40 : k < 40
    rotate_left
    · have e2 : decide ((k : Int) < 40) = false := by simp; omega
      have e2' : decide (k < 40) = false := by simpa using h40
      have HBW := Hidden.mk hBw
      clear h40 hBw
      try dsimp only
      go_wp2_with fail
      exact HBW
    have e2 : decide ((k : Int) < 40) = true := by simp; omega
    have e2' : decide (k < 40) = true := by simpa using h40
    have i0 : (0 : Int) ≤ k := by omega
    have i1 : (k : Int) < m := by omega
    have s1 : IntKind.i64.wrap ((k : Int) + 1) = (k : Int) + 1 := IntWalk.i64_in _ (by omega)
    have hkl : k < L.length := by rw [HL.out.2.2.1]; exact hlt
    obtain ⟨pb, off, rfl, x0, x1, x2, x3, x4, x5⟩ := ops_at (HL.out.1.below hBw) k hkl
    have HKO := Hidden.mk (HL.out.2.1 _ (List.getElem_mem hkl))
    generalize L[k] = o at *
    obtain ⟨what, handle, at_, len, name, bA, bc, body⟩ := o
    dsimp only at *
    have hal := (Below.refl wr.heap.size wr).alloc (Nat.le_refl _) (.cells #[.int .i64 what, .int .i64 handle, .int .i64 at_, .int .i64 len, sv name, .slice bA body.length bc] 35)
    have h6 := six6_cells wr (.int .i64 what) (.int .i64 handle) (.int .i64 at_) (.int .i64 len) (sv name) (.slice bA body.length bc) 35
    have hlt1 : wr.heap.size < (wr.alloc (.cells #[.int .i64 what, .int .i64 handle, .int .i64 at_, .int .i64 len, sv name, .slice bA body.length bc] 35)).heap.size := by simp
    have HP1 := Hidden.mk (HS.out.hp.below hal)
    have HRB := Hidden.mk (HS.out.rb.below hal)
    have hcb := HS.out.cb
    have HLL := Hidden.mk (And.intro HS.out.len HS.out.good)
    have hl0 : 0 < l.length := by rw [HS.out.len]; omega
    have HBO : Hidden (body.length ≤ bc ∧ bc ≤ 140737488351232 ∧ name.length ≤ 140737488351232 ∧ Rd (wr.alloc (.cells #[.int .i64 what, .int .i64 handle, .int .i64 at_, .int .i64 len, sv name, .slice bA body.length bc] 35)) bA body) := ⟨HKO.out.cap, HKO.out.le, HKO.out.name, HKO.out.rd.below (hBw.trans (hal.mono hBw.size))⟩
    have HLB : Hidden (-9223372036854775808 ≤ len ∧ len ≤ 9223372036854775807) := ⟨HKO.out.len⟩
    clear hal HS hBw HKO
    try dsimp only
    go_upto_region 17 with (fail)
    generalize wr.alloc (.cells #[.int .i64 what, .int .i64 handle, .int .i64 at_, .int .i64 len, sv name, .slice bA body.length bc] 35) = W1 at *
    generalize wr.heap.size = bx at *
    have H6 := Hidden.mk (And.intro h6 hlt1)
    obtain ⟨c0, c1, c2, c3', c4, c5⟩ := h6
    have HER : Hidden (∀ (E : Nat) W, Below w.heap.size w W → Calls Tryz.prog 10 #[errV E, .int .i64 (E : Int)] W fun e w' => e = .returned (.bool true) ∧ Below W.heap.size W w') := ⟨fun E W hW => by
      have := err_any E (E : Int) W (HL.out.2.2.2.below HL.out.2.2.2.lt hW)
      rwa [beq_self_eq_true] at this⟩
    have HER0 : Hidden (∀ W, Below w.heap.size w W → Calls Tryz.prog 10 #[.nilIface, .int .i64 0] W fun e w' => e = .returned (.bool true) ∧ Below W.heap.size W w') := ⟨fun W hW => HER.out 0 W hW⟩
    clear x0 x1 x2 x3 x4 x5 hlt1 e1 e1' e2 e2'
    try dsimp only
    go_upto_block 2 with (fail)
    refine hp_switch _ _ _ _ _ _ _ _ _ _ _ _ _ _ _ _ _ _ _ _ _ _ _ _ _ _ _ _ _ _ _ _ _ _ _ _ _ _ _ _ _ _ _ _ _ _ _ _ _ _ _ _ _ _ _ _ _ _ _ _ _ _ _ _ _ _ _ _ _ _ _ _ _ _ _ _ _ _ _ _ _ _ _ _ _ _ _ _ _ _ _ _ _ _ _ _ _ _ _ _ _ _ _ _ _ _ _ _ _ _ _ _ _ _ _ _ _ _ _ _ _ _ _ _ _ _ _ _ _ _ _ _ _ _ _ _ _ _ _ _ _ _ _ _ _ _ _ _ _ _ _ _ _ _ _ _ _ _ _ _ _ _ _ _ _ _ _ _ _ _ _ _ _ _ _ _ _ _ _ _ _ _ _ _ _ _ _ _ _ _ _ _ _ _ _ _ _ _ _ _ _ _ _ _ _ _ _ _ _ _ _ _ _ _ _ _ _ _ _ _ _ _ _ _ _ _ _ _ _ _ _ _ _ _ _ _ _ _ _ _ _ _ _ _ _ _ _ _ _ _ _ _ _ _ _ _ _ _ _ _ _ _ _ _ _ _ _ _ _ _ _ _ _ _ _ _ _ _ _ _ _ _ _ _ _ _ _ _ _ _ _ _ _ _ _ _ _ _ _ _ _ _ _ _ _ _ _ _ _ _ _ _ _ _ _ _ _ _ _ _ _ _ _ _ _ _ _ _ _ _ _ _ _ _ _ _ _ _ _ _ _ _ _ _ _ _ _ _ _ _ _ _ _ _ _ _ _ _ _ _ _ _ _ _ _ _ _ _ _ w W1 F h gb ob cb NL bx l what handle at_ len name bA bc body HTY hcb hl0 hNb HP1 HRB HLL H6 HBO HLB HER HER0 ?_
    intro x13 x14 x15 x16 x17 x18 x19 x20 x21 x22 x23 x24 x25 x26 x27 x28 x29 x30 x31 x32 x33 x34 x35 x36 x37 x38 x39 x40 x41 x42 x43 x44 x86 x87 x88 x89 x90 x91 x92 x93 x94 x95 x96 x97 x98 x99 x100 x101 x102 x103 x104 x105 x106 x107 x108 x109 x110 x111 x112 x113 x114 x115 x116 x117 x118 x119 x120 x121 x122 x123 x124 x125 x126 x127 x128 x129 x130 x131 x132 x133 x134 x135 x136 x137 x138 x139 x140 x141 x142 x143 x144 x145 x146 x147 x148 x149 x150 x151 x152 x153 x154 x155 x156 x157 x158 x159 x160 x161 x162 x163 x164 x165 x166 x167 x168 x169 x170 x171 x172 x173 x174 x175 x176 x177 x178 x179 x180 x181 x182 x183 x184 x185 x186 x187 x188 x189 x190 x191 x192 x193 x194 x195 x196 x197 x198 x199 x200 x201 x202 x203 x204 x205 x206 x207 x208 x209 x210 x211 x212 x213 x214 x215 x216 x217 x218 x219 x220 x221 x222 x223 x224 x225 x226 x227 x228 x229 x230 x231 x232 x233 x234 x235 x236 x237 x238 x239 x240 x241 x242 x243 x244 x245 x246 x247 x248 x249 x250 x251 x252 x253 x254 x255 x256 x257 x258 x259 x260 x261 x262 x263 x264 x265 x266 x267 x268 x269 x270 x271 x272 x273 x274 x275 x276 x277 x278 x279 x280 x281 x282 x283 x284 x285 x286 x287 x288 x289 x290 x291 x292 x293 x294 x295 x296 x297 x298 x299 x300 x301 x302 x303 x304 x305 x306 x307 x308 x309 x310 x311 x312 x313 x314 x315 x316 x317 x318 x319 x320 x321 x322 x323 x324 x325 x326 x327 x328 x329 x330 x331 x332 x333 x334 x335 x336 x337 x338 x339 x340 x341 x342 x343 x344 x345 x346 x347 x348 x349 x350 x351 x352 x353 x354 x355 x356 x357 x358 x359 x360 E F2 l2 nv wc hc2
    have HC2 := Hidden.mk hc2.out
    have hl2 : l2.length = NL := hc2.out.len
    clear hc2 HRB HP1 H6 HBO HER HER0 HLB
    try dsimp only
    go_upto_if 362 with (fail)
    go_cut [0] from 362 to 363 (fun bv wx => ∃ gn on cn, bv = .slice (some ⟨gn, on, none⟩) NL cn ∧ wc = wx ∧ Hidden (NL ≤ cn ∧ RdO wc F2 gn on l2))
    case first =>
      by_cases hE : E = 0
      · obtain ⟨gn, on, cn, rfl, hcn, hrn⟩ := HC2.out.nx hE
        have HF := Hidden.mk (And.intro hcn hrn)
        subst hE
        clear hcn hrn
        try dsimp only
        go_wp2_with fail
        go_meet
        exact ⟨gn, on, cn, rfl, rfl, HF⟩
      · have d1 : ((E : Int) == 0) = false := by simpa using hE
        have HF := Hidden.mk (And.intro hcb (HC2.out.rb.cong (HC2.out.ft hE).symm))
        clear hE
        try simp only [d1]
        try dsimp only
        go_wp2_with fail
        go_meet
        exact ⟨gb, ob, cb, rfl, rfl, HF⟩
    case rest =>
    as_aux_lemma =>
      obtain ⟨gn, on, cn, rfl, rfl, hrn⟩ := hcut
      have HRN := Hidden.mk hrn.out.2
      have hcn := hrn.out.1
      have HPC := Hidden.mk (And.intro HC2.out.hp HC2.out.good)
      have eK : (l2 != l2) = false := bne_self_eq_false l2
      have eK' : (l2 == l2) = true := beq_self_eq_true l2
      clear hrn HC2
      try dsimp only
      go_upto_region 79 with (fail)
      have hB0 : Below wc.heap.size wc wc.drew := (Below.refl _ _).drew
      refine wp_region_held_drew (S := fun W => Rd W (some ⟨gn, on, none⟩) l2) (by kernel_rfl) (HRN.out.rd.below hB0) (fun hHeld => ?_)
      refine wpAnyH_take (i := 0) (oi := { dst := some 364, op := Op.move (Operand.tmp 9), type := 4, pos := "law.go:179", after := #[], guard := none }) (v := ?_) rfl (by kernel_rfl) (by kernel_rfl) (by kernel_rfl) (fun _ _ _ h => HPAN.out _ _ _ _ _ h) (Or.inl ⟨by rfl, ?_⟩) hHeld ?_
      rotate_left
      · intro w_ hSw
        go_simp
        try with_reducible rfl
      try simp only [Act.put, List.setIfInBounds_toArray, List.set_cons_zero, List.set_cons_succ]
      refine wpAnyH_take (i := 1) (oi := { dst := some 365, op := Op.unOp UnOp.not 4 (Operand.tmp 364), type := 4, pos := "law.go:179", after := #[{ on := 0, ground := Ground.data }], guard := none }) (v := ?_) rfl (by kernel_rfl) (by kernel_rfl) (by kernel_rfl) (fun _ _ _ h => HPAN.out _ _ _ _ _ h) (Or.inl ⟨by rfl, ?_⟩) hHeld ?_
      rotate_left
      · intro w_ hSw
        go_simp
        try with_reducible rfl
      try simp only [Act.put, List.setIfInBounds_toArray, List.set_cons_zero, List.set_cons_succ]
      refine wpAnyH_take (i := 2) (oi := { dst := some 366, op := Op.move (Operand.tmp 365), type := 4, pos := "law.go:179", after := #[{ on := 1, ground := Ground.data }], guard := none }) (v := ?_) rfl (by kernel_rfl) (by kernel_rfl) (by kernel_rfl) (fun _ _ _ h => HPAN.out _ _ _ _ _ h) (Or.inl ⟨by rfl, ?_⟩) hHeld ?_
      rotate_left
      · intro w_ hSw
        go_simp
        try with_reducible rfl
      try simp only [Act.put, List.setIfInBounds_toArray, List.set_cons_zero, List.set_cons_succ]
      refine wpAnyH_take (i := 3) (oi := { dst := some 367, op := Op.move (Operand.tmp 7), type := 26, pos := "law.go:179", after := #[{ on := 2, ground := Ground.guard }], guard := some (2, false) }) (v := ?_) rfl (by kernel_rfl) (by kernel_rfl) (by kernel_rfl) (fun _ _ _ h => HPAN.out _ _ _ _ _ h) (Or.inl ⟨by rfl, ?_⟩) hHeld ?_
      rotate_left
      · intro w_ hSw
        go_simp
        try with_reducible rfl
      try simp only [Act.put, List.setIfInBounds_toArray, List.set_cons_zero, List.set_cons_succ]
      refine wpAnyH_take (i := 6) (oi := { dst := some 370, op := Op.move (Operand.tmp 0), type := 22, pos := "law.go:179", after := #[{ on := 2, ground := Ground.guard }], guard := some (2, false) }) (v := ?_) rfl (by kernel_rfl) (by kernel_rfl) (by kernel_rfl) (fun _ _ _ h => HPAN.out _ _ _ _ _ h) (Or.inl ⟨by rfl, ?_⟩) hHeld ?_
      rotate_left
      · intro w_ hSw
        go_simp
        try with_reducible rfl
      try simp only [Act.put, List.setIfInBounds_toArray, List.set_cons_zero, List.set_cons_succ]
      refine wpAnyH_take (i := 7) (oi := { dst := some 371, op := Op.convert 22 9 (Operand.tmp 370), type := 9, pos := "law.go:179", after := #[{ on := 6, ground := Ground.data }, { on := 2, ground := Ground.guard }], guard := some (2, false) }) (v := ?_) rfl (by kernel_rfl) (by kernel_rfl) (by kernel_rfl) (fun _ _ _ h => HPAN.out _ _ _ _ _ h) (Or.inl ⟨by rfl, ?_⟩) hHeld ?_
      rotate_left
      · intro w_ hSw
        have hcv_ := conv_text w_ (some ⟨gn, on, none⟩) NL cn l2 hl2 hSw
        go_simp
        try with_reducible rfl
      try simp only [Act.put, List.setIfInBounds_toArray, List.set_cons_zero, List.set_cons_succ]
      refine wpAnyH_ready (rs := [4]) (by kernel_rfl) (by simp) ?_
      refine AllReadyH.cons (o := { dst := some 368, op := Op.call { callee := Callee.value (Operand.func 32), args := #[Operand.tmp 367], argTypes := #[26] }, type := 22, pos := "law.go:179", after := #[{ on := 3, ground := Ground.data }, { on := 2, ground := Ground.chain }, { on := 2, ground := Ground.guard }], guard := some (2, false) }) rfl (fun K hK => ?_) (AllReadyH.nil)
      rw [if_pos (by rfl)]
      go_simp
      go_at_call 32
      refine (hbytes_ok _ _ _ _ _ (HPC.out.1.below hB0)).mono ?_
      rintro e w8 ⟨g8, c8, rfl, -, hr8, hb8⟩
      dsimp only
      refine hK.out _ _ (hHeld.below hb8) (fun hHeld => ?_)
      clear hK K
      try simp only [Act.put, List.setIfInBounds_toArray, List.set_cons_zero, List.set_cons_succ]
      refine wpAnyH_strong (S' := fun W => Row W 5 g8 c8 l2 ∧ Rd W (some ⟨gn, on, none⟩) l2) (fun _ h => h.2) _ _ _ _ ?_
      replace hHeld := And.intro hr8 hHeld
      refine wpAnyH_take (i := 5) (oi := { dst := some 369, op := Op.convert 22 9 (Operand.tmp 368), type := 9, pos := "law.go:179", after := #[{ on := 4, ground := Ground.data }, { on := 2, ground := Ground.guard }], guard := some (2, false) }) (v := ?_) rfl (by kernel_rfl) (by kernel_rfl) (by kernel_rfl) (fun _ _ _ h => HPAN.out _ _ _ _ _ h) (Or.inl ⟨by rfl, ?_⟩) hHeld ?_
      rotate_left
      · intro w_ hSw
        have hcv_ := conv_text w_ (some ⟨g8, 0, none⟩) NL c8 l2 hl2 hSw.1.rd
        go_simp
        try with_reducible rfl
      try simp only [Act.put, List.setIfInBounds_toArray, List.set_cons_zero, List.set_cons_succ]
      refine wpAnyH_take (i := 8) (oi := { dst := some 372, op := Op.binOp BinOp.neq 9 (Operand.tmp 369) (Operand.tmp 371) 9, type := 4, pos := "law.go:179", after := #[{ on := 5, ground := Ground.data }, { on := 7, ground := Ground.data }, { on := 2, ground := Ground.guard }], guard := some (2, false) }) (v := ?_) rfl (by kernel_rfl) (by kernel_rfl) (by kernel_rfl) (fun _ _ _ h => HPAN.out _ _ _ _ _ h) (Or.inl ⟨by rfl, ?_⟩) hHeld ?_
      rotate_left
      · intro w_ hSw
        go_simp
        try with_reducible rfl
      try simp only [Act.put, List.setIfInBounds_toArray, List.set_cons_zero, List.set_cons_succ]
      refine wpAnyH_take (i := 9) (oi := { dst := some 373, op := Op.pick (Operand.tmp 366) (Operand.const (Go.Value.bool true)) (Operand.tmp 372), type := 4, pos := "law.go:179", after := #[{ on := 2, ground := Ground.data }, { on := 8, ground := Ground.data }], guard := none }) (v := ?_) rfl (by kernel_rfl) (by kernel_rfl) (by kernel_rfl) (fun _ _ _ h => HPAN.out _ _ _ _ _ h) (Or.inl ⟨by rfl, ?_⟩) hHeld ?_
      rotate_left
      · intro w_ hSw
        go_simp
        try with_reducible rfl
      try simp only [Act.put, List.setIfInBounds_toArray, List.set_cons_zero, List.set_cons_succ]
      refine wpAnyH_done (by kernel_rfl) ?_ _
      clear hHeld
      have HN : Hidden (HpLp w w8 F2 h gn on cn NL l2) := ⟨(HPC.out.1.below hB0).below hb8, HPC.out.2, hl2, (HRN.out.below hB0).below hb8, hcn⟩
      clear hb8 hr8 hB0 HPC HRN
      try dsimp only
      go_wp2_with fail
      go_roundg (40 - (k + 1))
      case measure => omega
      case rel => exact ⟨k + 1, F2, l2, gn, on, cn, by omega, rfl, by go_num, rfl, HN⟩
end Go.Proofs.YtbnobjlphmkgeaaGreatDoor
