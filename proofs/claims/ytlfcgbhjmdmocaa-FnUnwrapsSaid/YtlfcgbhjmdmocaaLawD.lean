/- laws.FnUnwraps: its last part. -/
import Derived.Test.YtlfcgbhjmdmocaaLawBase
namespace Go.Proofs.Ytlfcgbhjmdmocaa
open Go.RowKit

/-- From the throws of the dice to the end. -/
noncomputable def codeD : Code := tailFrom 48 (Try.f3.body.getD .skip)
set_option maxRecDepth 100000 in
set_option maxHeartbeats 4000000 in
theorem lawD (a : Option Addr) (len cap : Nat) (w wc : World) (hl2 : len ≤ 4096) (hc : BytesAt w a len) (hcut : Below w.heap.size w wc) (s1 s2 s3 s4 s5 s6 s7 s8 s9 s10 s11 s12 s13 s14 s15 s16 s17 s18 s19 s20 s21 s22 s23 s24 s25 s26 s27 s28 s29 s30 s31 s32 s33 s34 s35 s36 s37 s38 s39 s40 s41 s42 s43 s44 s45 s46 s47 s48 s49 s50 s51 s52 s53 s54 s55 s56 s57 s58 s59 s60 s61 s62 s63 s64 s65 s66 s67 s68 s69 s70 s71 s72 s73 s74 s75 s76 s77 s78 s79 s80 s81 s82 s83 s84 s85 s86 s87 s88 s89 s90 s91 s92 s93 s94 s95 s96 s97 s98 s99 s100 s101 s102 s103 s104 s105 s106 s107 s108 s109 s110 s111 s112 s113 s114 s115 s116 s117 s118 s119 s120 s121 s122 s123 s124 s125 s126 s127 s128 s129 s130 s131 s132 s133 s134 s135 s136 s137 s138 s139 s140 s141 s142 s143 s144 s145 s146 s147 s148 s149 s150 s151 s152 s153 s154 s155 s156 s157 s158 s159 s160 s161 s162 s163 s164 s165 s166 s167 s168 s169 s170 s171 s172 s173 s174 s175 s176 s177 s178 s179 s180 s181 s182 s183 s184 s185 s186 s187 s188 s189 s190 s191 s192 s193 s194 s195 s196 s197 s198 s199 s200 s201 s202 s203 s204 s205 s206 s207 s208 s209 s210 s211 s212 s213 s214 s215 s216 s217 s218 s219 s220 s221 s222 s223 s224 s225 s226 s227 s228 s229 s230 s231 s232 s233 s234 s235 s236 s237 s238 s239 s240 s241 s242 s243 s244 s245 s246 s247 s248 s249 s250 s251 s252 s253 s254 s255 s256 s257 s258 s259 s260 s261 s262 s263 s264 s265 s266 s267 s268 s269 s270 s271 s272 s273 s274 s275 s276 s277 s278 s279 s280 s281 s282 s283 s284 s285 s286 s287 s288 s289 s290 s291 s292 s293 s294 s295 s296 s297 s298 s299 s300 s301 s302 s303 s304 s305 s306 s307 s308 s309 s310 s311 s312 s313 s314 s315 s316 s317 s318 s319 s320 s321 s322 s323 s324 s325 s326 s327 s328 s329 s330 s331 s332 s333 s334 s335 s336 s337 s338 s339 s340 s341 s342 s343 s344 s345 s346 s347 s348 s349 s350 s351 s352 s353 s354 s355 s356 s357 s358 s359 s360 s361 s362 s363 s364 s365 s366 s367 s368 s369 s370 s371 s372 s373 s374 s375 s376 s377 s378 s379 s380 s381 s382 s383 s384 s385 s386 s387 s388 s389 s390 s391 s392 s393 s394 s395 s396 s397 s398 s399 s400 s401 s402 s403 s404 s405 s406 s407 s408 s409 s410 s411 s412 s413 s414 s415 s416 s417 s418 s419 s420 s421 s422 s423 s424 s425 s426 s427 s428 s429 s430 s431 s432 : Value) :
    Code.wp Try.prog codeD (bodyPost Try.prog Try.f3 fun e w' => e = .returned (.bool true) ∧ Below w.heap.size w w') ⟨#[.slice a len cap, s1, s2, s3, s4, s5, s6, s7, s8, s9, s10, s11, s12, s13, s14, s15, s16, s17, s18, s19, s20, s21, s22, s23, s24, s25, s26, s27, s28, s29, s30, s31, s32, s33, s34, s35, s36, s37, s38, s39, s40, s41, s42, s43, s44, s45, s46, s47, s48, s49, s50, s51, s52, s53, s54, s55, s56, s57, s58, s59, s60, s61, s62, s63, s64, s65, s66, s67, s68, s69, s70, s71, s72, s73, s74, s75, s76, s77, s78, s79, s80, s81, s82, s83, s84, s85, s86, s87, s88, s89, s90, s91, s92, s93, s94, s95, s96, s97, s98, s99, s100, s101, s102, s103, s104, s105, s106, s107, s108, s109, s110, s111, s112, s113, s114, s115, s116, s117, s118, s119, s120, s121, s122, s123, s124, s125, s126, s127, s128, s129, s130, s131, s132, s133, s134, s135, s136, s137, s138, s139, s140, s141, s142, s143, s144, s145, s146, s147, s148, s149, s150, s151, s152, s153, s154, s155, s156, s157, s158, s159, s160, s161, s162, s163, s164, s165, s166, s167, s168, s169, s170, s171, s172, s173, s174, s175, s176, s177, s178, s179, s180, s181, s182, s183, s184, s185, s186, s187, s188, s189, s190, s191, s192, s193, s194, s195, s196, s197, s198, s199, s200, s201, s202, s203, s204, s205, s206, s207, s208, s209, s210, s211, s212, s213, s214, s215, s216, s217, s218, s219, s220, s221, s222, s223, s224, s225, s226, s227, s228, s229, s230, s231, s232, s233, s234, s235, s236, s237, s238, s239, s240, s241, s242, s243, s244, s245, s246, s247, s248, s249, s250, s251, s252, s253, s254, s255, s256, s257, s258, s259, s260, s261, s262, s263, s264, s265, s266, s267, s268, s269, s270, s271, s272, s273, s274, s275, s276, s277, s278, s279, s280, s281, s282, s283, s284, s285, s286, s287, s288, s289, s290, s291, s292, s293, s294, s295, s296, s297, s298, s299, s300, s301, s302, s303, s304, s305, s306, s307, s308, s309, s310, s311, s312, s313, s314, s315, s316, s317, s318, s319, s320, s321, s322, s323, s324, s325, s326, s327, s328, s329, s330, s331, s332, s333, s334, s335, s336, s337, s338, s339, s340, s341, s342, s343, s344, s345, s346, s347, s348, s349, s350, s351, s352, s353, s354, s355, s356, s357, s358, s359, s360, s361, s362, s363, s364, s365, s366, s367, s368, s369, s370, s371, s372, s373, s374, s375, s376, s377, s378, s379, s380, s381, s382, s383, s384, s385, s386, s387, s388, s389, s390, s391, s392, s393, s394, s395, s396, s397, s398, s399, s400, s401, s402, s403, s404, s405, s406, s407, s408, s409, s410, s411, s412, s413, s414, s415, s416, s417, s418, s419, s420, s421, s422, s423, s424, s425, s426, s427, s428, s429, s430, s431, s432], []⟩ wc := by
  conv => arg 2; whnf
  go_wp2_with fail
  refine (roll_any a len cap 992 _ hl2 (hc.below hcut (Nat.le_refl _))).mono ?_
  rintro e w32 ⟨rfl, d32, b32⟩
  have B32 := hcut.trans (b32.mono hcut.size)
  have hge := hcut.size
  clear b32 hcut
  go_wp2_with fail
  refine (below_any _ 4 _ d32 (by omega)).mono ?_
  rintro e w33 ⟨r, rfl, ⟨r0, -, r1⟩, d33, s33⟩
  have r1 := r1 (by omega)
  have B33 := B32.trans (s33.below B32.size (fun k hk e => by omega))
  clear s33 B32
  go_wp2_with fail
  refine (below_any _ 63 _ d33 (by omega)).mono ?_
  rintro e w34 ⟨p, rfl, ⟨p0, -, p1⟩, d34, s34⟩
  have p1 := p1 (by omega)
  have B34 := B33.trans (s34.below B33.size (fun k hk e => by omega))
  clear s34 B33 d33
  go_wp2_with fail
  refine (below_any _ 63 _ d34 (by omega)).mono ?_
  rintro e w35 ⟨q, rfl, ⟨q0, -, q1⟩, d35, s35⟩
  have q1 := q1 (by omega)
  have B35 := B34.trans (s35.below B34.size (fun k hk e => by omega))
  clear s35 B34 d34 d35
  go_wp2_with fail
  obtain ⟨m, hm, hs⟩ := pow_side r r0 r1
  rw [hm]
  clear hm r0 r1 hge
  generalize hU : p - 31 = u
  generalize hV : q - 31 = v
  have ub : -31 ≤ u ∧ u ≤ 31 := by omega
  have vb : -31 ≤ v ∧ v ≤ 31 := by omega
  clear hU hV p0 p1 q0 q1
  obtain ⟨P1, P2, P3, A, B, P4, P5⟩ := plane_ok m hs u v ub vb
  have hm8 : 1 ≤ m ∧ m ≤ 8 := by rcases sideB_iff.1 hs with h | h | h | h <;> omega
  have hm64 : m * m ≤ 64 := Nat.mul_le_mul hm8.2 hm8.2
  have hpos : 1 ≤ m * m := Nat.mul_pos hm8.1 hm8.1
  have P1 := Lib.hid P1
  have P2 := Lib.hid P2
  have P3 := Lib.hid P3
  have P4 := Lib.hid P4
  have P5 := Lib.hid P5
  have Hs := Lib.hid hs
  clear hs
  have hO := OwnI.made (w := w35) (base := w35.heap.size) [] (Nat.le_refl _) (by simp)
  go_loopw [49, 50] (fun x i wr => ∃ k : Nat, k ≤ m * m ∧ i = .int .i64 k ∧ OwnI wr w35.heap.size x (planeTo m u v k) ∧ Below w35.heap.size w35 wr) (fun _ i _ => m * m - (intOf i).toNat)
  case atStart => exact ⟨0, Nat.zero_le _, rfl, by simpa [planeTo] using hO, (Below.refl _ _).alloc (Nat.le_refl _) _⟩
  case round =>
    clear hO
    obtain ⟨k, hk, rfl, hO, hbl⟩ := hrel
    by_cases hlt : k < m * m
    · have hd : decide ((k : Int) < m * m) = true := by
        rw [decide_eq_true_iff, show (m : Int) * m = ((m * m : Nat) : Int) by simp]; omega
      have a1 : (0 : Int) ≤ (k : Int) % m := Int.emod_nonneg _ (by omega)
      have a2 : (k : Int) % m ≤ 7 := by have := Int.emod_lt_of_pos (k : Int) (show (0 : Int) < m by omega); omega
      have a3 : (0 : Int) ≤ (k : Int) / m := Int.ediv_nonneg (by omega) (by omega)
      have a4 : (k : Int) / m ≤ 64 := by have := Int.ediv_le_self (m : Int) (show (0 : Int) ≤ (k : Int) by omega); omega
      have c1 := abs_mul_le u _ ub a1
      have c2 := abs_mul_le v _ vb a3
      have w1 : IntKind.i64.wrap (u * ((k : Int) % m)) = u * ((k : Int) % m) := IntWalk.i64_in _ (by omega)
      have w2 : IntKind.i64.wrap (v * ((k : Int) / m)) = v * ((k : Int) / m) := IntWalk.i64_in _ (by omega)
      have w3 : IntKind.i64.wrap (u * ((k : Int) % m) + v * ((k : Int) / m)) = u * ((k : Int) % m) + v * ((k : Int) / m) := IntWalk.i64_in _ (by omega)
      have w4 : IntKind.i64.wrap ((k : Int) / m) = (k : Int) / m := IntWalk.i64_in _ (by omega)
      have w5 : (k : Int).tmod m = (k : Int) % m := Int.tmod_eq_emod_of_nonneg (by omega)
      have w6 : (k : Int).tdiv m = (k : Int) / m := Int.tdiv_eq_ediv_of_nonneg (by omega)
      have w7 : ((m : Int) == 0) = false := by rw [beq_eq_false_iff_ne]; omega
      have w8 : ¬ m = 0 := by omega
      have hll : (planeTo m u v k).length ≤ 1000000 := by rw [planeTo_length]; omega
      have hbs := hbl.size
      have hob : ∀ j, u49.ownBlock = some j → w35.heap.size ≤ j := fun j hj => (hO.lt j hj).1
      have Hst := Lib.hid (show planeTo m u v (k + 1) = planeTo m u v k ++ [u * ((k : Int) % m) + v * ((k : Int) / m)] from by rw [planeTo_succ]; simp)
      have HO := Lib.hid hO
      clear hO c1 c2
      go_wp2_with fail
      go_region_law (refine step_push rfl (.tmp 364) (.tmp 376) rfl w35.heap.size u49 (planeTo m u v k) (u * ((k : Int) % m) + v * ((k : Int) / m)) _ 1 rfl (HO.out.same (S := fun _ => False) ((Same.refl _ _).drew.alloc _) (fun _ _ f => f)) rfl (World.cell?_alloc_at _ _ _ _ rfl) hll (by simp; omega) ?_; intro v' w' ho hg)
      all_goals
        have hb2 : Below w35.heap.size w35 w' := (hbl.drew.alloc (by simp; omega) _).grown hg (by simp; omega) (fun j hj => hob j hj)
        have Ho := Lib.hid ho
        clear hg ho hob
        go_wp2_with fail
        go_roundw
        case rel => exact ⟨k + 1, by omega, by go_num, by rw [Hst.out]; exact Ho.out, hb2⟩
        case measure => simp [intOf]; omega
    · have hd : decide ((k : Int) < m * m) = false := by
        rw [decide_eq_false_iff_not, show (m : Int) * m = ((m * m : Nat) : Int) by simp]; omega
      obtain rfl : k = m * m := by omega
      have hPl : (planeTo m u v (m * m)).length = m * m := planeTo_length _ _ _ _
      generalize planeTo m u v (m * m) = P at hO P1 P2 P3 P4 hPl
      have hp1 : 1 ≤ P.length := by omega
      have hp2 : P.length ≤ 1000000 := by omega
      obtain ⟨gp, cp, rfl, hgp, -, iP, -⟩ := hO.reads hp1
      have BB : Below w.heap.size w wr := B35.trans (hbl.mono B35.size)
      clear hO hPl hbl B35
      have hW : ResI wr (wrapRes (m : Int) P) (wrapCode (m : Int) P) = ResI wr (P.map wrapH) 0 := by
        rw [show wrapRes (m : Int) P = P.map wrapH by simp [wrapRes, P1.out], show wrapCode (m : Int) P = 0 by simp [wrapCode, P1.out]]
      have HC1 := wrapHeights_any (m : Int) gp 0 cp P wr iP hp2
      rw [hW] at HC1
      clear hW
      go_wp2_with fail
      refine HC1.mono ?_
      clear HC1
      rintro e w40 ⟨v40, rfl, f40, b40⟩
      have iP := iP.below b40 iP.lt
      have B40 := BB.trans (b40.mono BB.size)
      clear b40 BB
      have hwl : (P.map wrapH).length = P.length := by simp
      generalize P.map wrapH = Wd at f40 P2 P3 hwl
      have hw1 : 1 ≤ Wd.length := by omega
      have hw2 : Wd.length ≤ 1000000 := by omega
      obtain ⟨gw, cw, rfl, hgw, iW⟩ := f40.reads hw1
      clear f40 hwl
      have HC2 := unwrapRows_any (m : Int) gw 0 cw Wd w40 iW hw2
      rw [P3.out, P2.out] at HC2
      go_wp2_with fail
      refine HC2.mono ?_
      clear HC2
      rintro e w41 ⟨v41, rfl, f41, b41⟩
      have iP := iP.below b41 iP.lt
      have B41 := B40.trans (b41.mono B40.size)
      clear b41 B40 iW
      obtain ⟨gb, cb, rfl, hgb, iB⟩ := f41.reads hp1
      clear f41
      have HC3 := slopesOf_any (m : Int) gb 0 cb P w41 iB hp2
      rw [P4.out, show sloCode (m : Int) P = 0 by simp [sloCode, P1.out]] at HC3
      go_wp2_with fail
      refine HC3.mono ?_
      clear HC3
      rintro e w42 ⟨v42, rfl, f42, b42⟩
      have iP := iP.below b42 iP.lt
      have iB := iB.below b42 iB.lt
      have B42 := B41.trans (b42.mono B41.size)
      clear b42 B41
      obtain ⟨gs, cs, rfl, hgs, iS⟩ := f42.reads (by simp)
      clear f42
      go_wp2_with fail
      refine (likeInts_any (.inr ⟨gb, cb, rfl, Nat.zero_le _, iB⟩ : FreshI 0 w42 (.slice (some ⟨gb, 0, none⟩) P.length cb) P) (.inr ⟨gp, cp, rfl, Nat.zero_le _, iP⟩ : FreshI 0 w42 (.slice (some ⟨gp, 0, none⟩) P.length cp) P) hp2 rfl).mono ?_
      rintro e w43 ⟨rfl, b43⟩
      have iS := iS.below b43 iS.lt
      have B43 := B42.trans (b43.mono B42.size)
      clear b43 B42 iP iB
      have s0 := iS.cell 0 (by simp)
      have s1 := iS.cell 1 (by simp)
      simp at s0 s1
      clear iS
      rcases P5.out with e | ⟨e, rfl, rfl⟩
      · subst e
        have e1 : (((1 : Nat) : Int) == 1) = true := rfl
        go_wp2_with fail
        go_ret
        exact ⟨rfl, B43⟩
      · have e1 : ((m : Int) == 1) = false := by rw [beq_eq_false_iff_ne]; omega
        clear e
        go_wp2_with fail
        go_ret
        exact ⟨rfl, B43⟩

end Go.Proofs.Ytlfcgbhjmdmocaa
