/- Walk: the law ShardsLinear, behind its second loop. -/
import Derived.Test.YthlnnclpfgokjaaMgShardsLinear8
import Derived.Deep.DeepCutAuto
namespace Go.Proofs.Ythlnnclpfgokjaa
open Go.RowKit Gf
set_option linter.unusedVariables false
set_option linter.unusedSimpArgs false
theorem reads_off {w w' : World} {B n g : Nat} {A : Option Addr} {xs : List Value} (h : Reads w B 1 A n xs) (hA : ∀ ad, A = some ad → ad.block ≠ g) (hk : ∀ p : Addr, p.block < B → p.block ≠ g → w'.cell? p = w.cell? p) : Reads w' B 1 A n xs :=
  ⟨h.1, fun hn => by
    obtain ⟨ad, e, hb, hc⟩ := h.2 hn
    exact ⟨ad, e, hb, fun j u hu => (hk _ (by rw [block_of_add]; exact hb) (by rw [block_of_add]; exact hA ad e)).trans (hc j u hu)⟩⟩
theorem own_off {w : World} {base M c g : Nat} {e : TypeId} {A : Option Addr} {xs : List Value} (h : w.ownsRow base e 1 (.slice A M c) M xs) (hg : g < base) : ∀ ad, A = some ad → ad.block ≠ g := fun ad e he => by
  subst e
  rcases h.2 with ⟨h', _⟩ | ⟨g', cap, cur, h', h2, _⟩
  · cases h'
  · simp only [Value.slice.injEq, Option.some.injEq] at h'
    obtain ⟨rfl, _⟩ := h'
    have : g' = g := he
    omega
set_option maxRecDepth 100000 in
set_option maxHeartbeats 16000000 in
theorem lin_tail20 (c0 c1 c4 c5 c8 c9 c10 c11 c12 c13 c14 c15 c16 c17 c19 c20 c21 c23 c24 c26 c28 c29 c30 c31 c32 c33 c34 c35 c36 c37 c38 c39 c40 c41 c42 c43 c44 c45 c46 c47 c48 c49 c50 c51 c52 c53 c54 c55 c56 c57 c58 c59 c60 c61 c62 c63 c64 c65 c66 c67 c68 c69 c70 c71 c72 c73 c74 c75 c76 c77 c78 c79 c80 c81 c82 c83 c84 c85 c86 c87 c88 c89 c90 c91 c92 c93 c94 c95 c96 c97 c98 c99 c100 c101 c102 c103 c104 c105 c106 c107 c108 c109 c110 c111 c112 c113 c114 c115 c116 c117 c118 c119 c120 c121 c122 c123 c124 c125 c126 c127 c128 c129 c130 c131 c132 c133 c134 c135 c136 c137 c138 c139 c140 c141 c142 c143 c144 c145 c146 c147 c148 c149 c150 c151 c152 c153 c154 c155 c156 c157 c158 c159 c160 c161 c162 c163 c164 c165 c166 c167 c168 c169 c170 c171 c172 c173 c174 c175 c176 c177 c178 c179 c180 c181 c182 c183 c184 c185 c186 c187 c188 c189 c190 c191 c192 c193 c194 c195 c196 c197 c198 c199 c200 c201 c202 c203 c204 c205 c206 c207 c208 c209 c210 c211 c212 c213 c214 c215 c216 c217 c218 c219 c220 c221 c222 c223 c224 c225 c226 c227 c228 c229 c230 c231 c232 c233 c234 c235 c236 c237 c238 c239 c240 c241 c242 c243 c244 c245 c246 c247 c248 c249 c250 c251 c252 c253 c254 c255 c256 c257 c258 c259 c260 c261 c262 c263 c264 c265 c266 c267 c268 c269 c270 c271 c272 c273 c274 c275 c276 c277 c278 c279 c280 c281 c282 c283 c284 c285 c286 c287 c288 c289 c290 c291 c292 c293 c294 c295 c296 c297 c298 c299 c300 c301 c302 c303 c304 c305 c306 c307 c308 c309 c310 c311 c312 c313 c314 c315 c316 c317 c318 c319 c320 c321 c322 c323 c324 c325 c326 c327 c328 c329 c330 c331 c332 c333 c334 c335 c336 c337 c338 c339 c340 c341 c342 c343 c344 c345 c346 c347 c348 c349 c350 c351 c352 c353 c354 c355 c356 c357 c358 c359 c360 c361 c362 c363 c364 c365 c366 c367 c368 : Value) (K M Wd : Nat) (at' : Int) (y : UInt8) (D : List ByteArray) (gd go cd co c6 : Nat) (A6 : Option Addr) (w w9 : World)
    (K1 : 1 ≤ K) (K2 : K ≤ 32) (KM : K + M ≤ 64) (hW2 : Wd ≤ 140737488355328) (hKW : K * Wd ≤ 140737488355392) (h9 : -9223372036854775808 ≤ at') (h10 : at' ≤ 9223372036854775807)
    (DL : Hid (D.length = K)) (DZ : Hid (∀ j, j < K → (sAt D j).size = Wd)) (DA : Hid (alikeB D = true)) (R6 : Hid (Reads w9 w9.heap.size 1 A6 M (strV (parL D M)))) (hA6 : Hid (∀ ad, A6 = some ad → ad.block ≠ go)) (RD9 : Hid (Reads w9 w9.heap.size 1 (some ⟨gd, 0, none⟩) K (strV D)))
    (BO9 : Hid (bufIs w9 9 go K co (fun i => .string (sAt D i)))) (hgoW : w.heap.size ≤ go) (B9 : Hid (Below w.heap.size w w9)) :
    Code.wp Try.prog (tailC 20 (Try.f14.body.getD .skip)) (bodyPost Try.prog Try.f14 fun e w' => e = .returned (.bool true) ∧ Below w.heap.size w w')
      ⟨#[c0, c1, .int .i64 (K : Int), .int .i64 (M : Int), c4, c5, .int .i64 at', .int .u8 (y.toNat : Int), c8, c9, c10, c11, c12, c13, c14, c15, c16, c17, .slice (some ⟨gd, 0, none⟩) K cd, c19, c20, c21, .int .i64 (Wd : Int), c23, c24, .slice (some ⟨go, 0, none⟩) K co, c26, .slice A6 M c6, c28, c29, c30, c31, c32, c33, c34, c35, c36, c37, c38, c39, c40, c41, c42, c43, c44, c45, c46, c47, c48, c49, c50, c51, c52, c53, c54, c55, c56, c57, c58, c59, c60, c61, c62, c63, c64, c65, c66, c67, c68, c69, c70, c71, c72, c73, c74, c75, c76, c77, c78, c79, c80, c81, c82, c83, c84, c85, c86, c87, c88, c89, c90, c91, c92, c93, c94, c95, c96, c97, c98, c99, c100, c101, c102, c103, c104, c105, c106, c107, c108, c109, c110, c111, c112, c113, c114, c115, c116, c117, c118, c119, c120, c121, c122, c123, c124, c125, c126, c127, c128, c129, c130, c131, c132, c133, c134, c135, c136, c137, c138, c139, c140, c141, c142, c143, c144, c145, c146, c147, c148, c149, c150, c151, c152, c153, c154, c155, c156, c157, c158, c159, c160, c161, c162, c163, c164, c165, c166, c167, c168, c169, c170, c171, c172, c173, c174, c175, c176, c177, c178, c179, c180, c181, c182, c183, c184, c185, c186, c187, c188, c189, c190, c191, c192, c193, c194, c195, c196, c197, c198, c199, c200, c201, c202, c203, c204, c205, c206, c207, c208, c209, c210, c211, c212, c213, c214, c215, c216, c217, c218, c219, c220, c221, c222, c223, c224, c225, c226, c227, c228, c229, c230, c231, c232, c233, c234, c235, c236, c237, c238, c239, c240, c241, c242, c243, c244, c245, c246, c247, c248, c249, c250, c251, c252, c253, c254, c255, c256, c257, c258, c259, c260, c261, c262, c263, c264, c265, c266, c267, c268, c269, c270, c271, c272, c273, c274, c275, c276, c277, c278, c279, c280, c281, c282, c283, c284, c285, c286, c287, c288, c289, c290, c291, c292, c293, c294, c295, c296, c297, c298, c299, c300, c301, c302, c303, c304, c305, c306, c307, c308, c309, c310, c311, c312, c313, c314, c315, c316, c317, c318, c319, c320, c321, c322, c323, c324, c325, c326, c327, c328, c329, c330, c331, c332, c333, c334, c335, c336, c337, c338, c339, c340, c341, c342, c343, c344, c345, c346, c347, c348, c349, c350, c351, c352, c353, c354, c355, c356, c357, c358, c359, c360, c361, c362, c363, c364, c365, c366, c367, c368], []⟩ w9 := by
  conv => arg 2; whnf
  have s9 := B9.out.size
  by_cases hq : Wd = 0 ∨ y = 0
  · have hq' : Wd = 0 ∨ (Wd ≠ 0 ∧ y = 0) := by
      rcases Nat.eq_zero_or_pos Wd with h | h
      · exact .inl h
      · exact .inr ⟨by omega, hq.resolve_left (by omega)⟩
    rcases hq' with h | ⟨h, h'⟩
    · subst h
      go_wp2
      go_ret
      exact ⟨rfl, B9.out⟩
    · subst h'
      have hwb : ((Wd : Int) == 0) = false := by rw [beq_eq_false_iff_ne]; omega
      rw [show (((0 : UInt8).toNat : Nat) : Int) = 0 from rfl]
      go_wp2
      go_ret
      exact ⟨rfl, B9.out⟩
  · have hw1 : 1 ≤ Wd := by omega
    have hy : y ≠ 0 := fun h => hq (.inr h)
    have hwb : ((Wd : Int) == 0) = false := by rw [beq_eq_false_iff_ne]; omega
    have hyb : ((y.toNat : Int) == 0) = false := by
      rw [beq_eq_false_iff_ne]
      intro h
      exact hy (UInt8.toNat_inj.1 (by show y.toNat = 0; omega))
    obtain ⟨P, hP⟩ : ∃ P, K * Wd = P := ⟨_, rfl⟩
    have hPi : (K : Int) * (Wd : Int) = (P : Int) := by rw [← hP]; simp
    have hP1 : 1 ≤ P := by rw [← hP]; exact Nat.mul_pos (by omega) (by omega)
    rw [hP] at hKW
    obtain ⟨t1, ht1⟩ : ∃ t1 : Int, at'.tmod (P : Int) = t1 := ⟨_, rfl⟩
    have bt1 := tmod_bd at' (P : Int) (by omega)
    rw [ht1] at bt1
    obtain ⟨bt1a, bt1b⟩ := bt1
    obtain ⟨A, hA⟩ : ∃ A : Nat, (t1 + (P : Int)) % (P : Int) = (A : Int) := ⟨((t1 + (P : Int)) % (P : Int)).toNat, by have := Int.emod_nonneg (t1 + (P : Int)) (show (P : Int) ≠ 0 by omega); omega⟩
    have A1 : A < P := by have := Int.emod_lt_of_pos (t1 + (P : Int)) (show (0 : Int) < (P : Int) by omega); omega
    have hPb : ((P : Int) == 0) = false := by rw [beq_eq_false_iff_ne]; omega
    obtain ⟨W0, hW0⟩ : ∃ W0, A / Wd = W0 := ⟨_, rfl⟩
    obtain ⟨V0, hV0⟩ : ∃ V0, A % Wd = V0 := ⟨_, rfl⟩
    have W1 : W0 < K := by rw [← hW0]; exact Nat.div_lt_of_lt_mul (by rw [Nat.mul_comm, hP]; exact A1)
    have V1 : V0 < Wd := by rw [← hV0]; exact Nat.mod_lt _ (by omega)
    have hWi : (A : Int) / (Wd : Int) = (W0 : Int) := by rw [← hW0]; rfl
    have hVi : (A : Int) % (Wd : Int) = (V0 : Int) := by rw [← hV0]; rfl
    obtain ⟨r, hr⟩ : ∃ r, sAt D W0 = r := ⟨_, rfl⟩
    have hrs : r.size = Wd := by rw [← hr]; exact DZ.out W0 W1
    have hx : w9.cell? ⟨gd, W0, none⟩ = some (.string r) := by rw [← hr]; exact reads_cellS RD9.out DL.out W0 W1
    have HRr := Lib.hid hr
    have hWK : (W0 : Int) < (K : Int) := by omega
    clear hq hP hW0 hV0 hr
    go_upto_region 35 with fail
    try simp only [hA]
    clear ht1 hA hPi hPb hwb hyb bt1a bt1b
    have HYX := Lib.hid (xor_bits (byteAt r V0) y)
    obtain ⟨t, ht⟩ : ∃ t, bs ((List.range r.size).map (chg r V0 y)) = t := ⟨_, rfl⟩
    have tz : t.size = Wd := by rw [← ht, chg_size, hrs]
    have HTX := Lib.hid ht
    have hV0r : V0 < r.size := by rw [hrs]; exact V1
    have HPU := alike_put D K Wd W0 t DL.out DZ.out W1 tz
    have XU : Hid (encR (putL D W0 t) (M : Int) = (parL (putL D W0 t) M, 0)) := Lib.hid (by rw [encR_yes ⟨by rw [putL_length, DL.out]; omega, by rw [putL_length, DL.out]; omega, HPU.2, by omega, by rw [putL_length, DL.out]; omega⟩, Int.toNat_natCast])
    have ZU : Hid ((sAt (putL D W0 t) 0).size ≤ 281474976710656) := Lib.hid (by rw [HPU.1 0 (by omega)]; omega)
    have HTB : Hid (∀ q, q < Wd → byteAt t q = if q = V0 then byteAt (sAt D W0) q ^^^ y else byteAt (sAt D W0) q) := Lib.hid (fun q hq => by
      rw [← HTX.out, byteAt_map _ _ _ (by rw [hrs]; exact hq), HRr.out]; unfold chg
      by_cases e : q = V0
      · rw [if_pos e, if_pos e, e]
      · rw [if_neg e, if_neg e])
    have HTZ := Lib.hid tz
    have HRS := Lib.hid hrs
    have hVr : (V0 : Int) < (r.size : Int) := by omega
    clear ht HPU tz hrs
    go_wp2_with ((with_reducible refine conv_bytes_wp (e := 5) (by kernel_rfl) (by kernel_rfl) (by kernel_rfl) rfl _ rfl r rfl ?_); intro cap w6 hc6 hg6)
    have HC6 : Hid (bufIs w6 5 w9.heap.size r.size cap (fun j => .int .u8 ((byteAt r j).toNat : Int))) := Lib.hid hc6
    have HB6 : Hid (Below w9.heap.size w9 w6) := Lib.hid (below_grown (Below.refl _ _) hg6 (by intro _ h; cases h))
    have s6 := HB6.out.size
    have hle6 := HC6.out.le
    have hcv : w6.cell? ⟨w9.heap.size, V0, none⟩ = some (.int .u8 ((byteAt r V0).toNat : Int)) := HC6.out.cell hV0r
    have hfv : w6.frozen? ⟨w9.heap.size, V0, none⟩ = false := HC6.out.frozen (by omega)
    have hstr := str_reads (c := cap) (buf_readsU (chg_buf _ HC6.out HYX.out))
    rw [HTX.out] at hstr
    have hgo : go < w9.heap.size := BO9.out.lt
    have hKco := BO9.out.le
    have BS := fun v => HB6.out.setCell (p := ⟨w9.heap.size, V0, none⟩) (Nat.le_refl _) v
    have HBW : Hid (∀ v, bufIs (w6.setCell ⟨w9.heap.size, V0, none⟩ v) 9 go K co (fun i => .string (sAt D i))) := Lib.hid (fun v => BO9.out.of_block ((BS v).block _ hgo))
    have hcW : ∀ v, (w6.setCell ⟨w9.heap.size, V0, none⟩ v).cell? ⟨go, W0, none⟩ = some (.string r) := (fun v => by rw [← HRr.out]; exact (HBW.out v).cell W1)
    have hfW : ∀ v, (w6.setCell ⟨w9.heap.size, V0, none⟩ v).frozen? ⟨go, W0, none⟩ = false := (fun v => (HBW.out v).frozen (by omega))
    have HBS : Hid (∀ v u, Below w.heap.size w ((w6.setCell ⟨w9.heap.size, V0, none⟩ v).setCell ⟨go, W0, none⟩ u)) := Lib.hid (fun v u => (B9.out.trans ((BS v).mono s9)).setCell (p := ⟨go, W0, none⟩) (by show w.heap.size ≤ go; omega) u)
    clear BS hc6 hg6
    have hT1 : (A : Int).tmod (Wd : Int) = (V0 : Int) := by rw [Int.tmod_eq_emod_of_nonneg (by omega)]; exact hVi
    have hT2 : (A : Int).tdiv (Wd : Int) = (W0 : Int) := by rw [Int.tdiv_eq_ediv_of_nonneg (by omega)]; exact hWi
    have hwb : ((Wd : Int) == 0) = false := by rw [beq_eq_false_iff_ne]; omega
    have hwne : ¬ Wd = 0 := by omega
    have hz1 : IntKind.i64.wrap (V0 : Int) = (V0 : Int) := IntWalk.i64_in _ (by omega)
    have hz2 : IntKind.i64.wrap (W0 : Int) = (W0 : Int) := IntWalk.i64_in _ (by omega)
    go_wp2_with fail
    refine wp_region_still_tail 13 (by kernel_rfl) (by kernel_rfl) ?_
    simp only [List.take_succ_cons, List.take_zero, List.drop_succ_cons, List.drop_zero]
    repeat still_step
    try refine wpStill_nil ?_
    go_wp2_with fail
    generalize hw7 : (w6.setCell ⟨w9.heap.size, V0, none⟩ (.int .u8 (bits .xor .u8 ((byteAt r V0).toNat : Int) (y.toNat : Int)))).drew = w7
    have hstr7 : (convert 44 9 (.slice (some ⟨w9.heap.size, 0, none⟩) r.size cap)).run Try.prog w7.drew = .ok (.string t) w7.drew := by
      rw [← hw7, ← HTX.out]
      exact str_reads (c := cap) (buf_readsU ((chg_buf _ HC6.out HYX.out).drew.drew))
    have hcW7 : w7.cell? ⟨go, W0, none⟩ = some (.string r) := by rw [← hw7]; exact hcW _
    have hfW7 : w7.frozen? ⟨go, W0, none⟩ = false := by rw [← hw7]; exact hfW _
    have HBF7 : Hid (bufIs w7 9 go K co (fun i => .string (sAt D i))) := Lib.hid (by rw [← hw7]; exact (HBW.out _).drew)
    have HBS7 : Hid (∀ u, Below w.heap.size w ((w7.setCell ⟨go, W0, none⟩ u))) := Lib.hid (fun u => by rw [← hw7]; exact ((B9.out.trans ((HB6.out.setCell (p := ⟨w9.heap.size, V0, none⟩) (Nat.le_refl _) _).mono s9)).drew).setCell (p := ⟨go, W0, none⟩) (by show w.heap.size ≤ go; omega) u)
    have HB97 : Hid (Below w9.heap.size w9 w7) := Lib.hid (by rw [← hw7]; exact (HB6.out.setCell (p := ⟨w9.heap.size, V0, none⟩) (Nat.le_refl _) _).drew)
    clear hw7 hstr hcW hfW hcv hfv
    refine wp_region_still_tail 7 (by kernel_rfl) (by kernel_rfl) ?_
    simp only [List.take_succ_cons, List.take_zero, List.drop_succ_cons, List.drop_zero]
    repeat still_step
    try refine wpStill_nil ?_
    clear hT1 hT2 hz1 hz2
    go_wp2_with fail
    clear hstr7 hcW7 hfW7
    obtain ⟨w8, hw8⟩ : ∃ w8, (w7.setCell ⟨go, W0, none⟩ (.string t)).drew = w8 := ⟨_, rfl⟩
    rw [hw8]
    have HR8 : Hid (Reads w8 w8.heap.size 1 (some ⟨go, 0, none⟩) K (strV (putL D W0 t))) := Lib.hid (by rw [← hw8]; exact put_reads D W0 t DL.out W1 HBF7.out)
    have HB8 : Hid (Below w.heap.size w w8) := Lib.hid (by rw [← hw8]; exact (HBS7.out _).drew)
    have H87 : Hid (∀ p : Addr, p.block ≠ go → w8.cell? p = w7.cell? p) := Lib.hid (fun p hne => by rw [← hw8]; exact World.cell?_setCell_other w7 _ _ _ (fun e => by subst e; exact hne rfl))
    have s98 : w9.heap.size ≤ w8.heap.size := by have := HB97.out.size; rw [← hw8]; simpa [World.setCell] using this
    have s8 := HB8.out.size
    clear hw8 HBS7 HBF7
    refine (encode_any _ K co (putL D W0 t) (M : Int) _ _ HR8.out (Nat.le_refl _) (by omega) (by omega) (by omega) ZU.out).mono ?_
    rintro e w10 ⟨v10, rfl, ho10, hb10⟩
    rw [XU.out] at ho10 ⊢
    have HO10 : Hid (w10.ownsRow w8.heap.size 9 1 v10 M (strV (parL (putL D W0 t) M))) := Lib.hid (by have := ho10; rw [show (parL (putL D W0 t) M, (0 : Int)).1.length = M from parL_length _ _] at this; exact this)
    have HB10 : Hid (Below w.heap.size w w10) := Lib.hid (HB8.out.trans (hb10.mono s8))
    have R6' : Hid (Reads w10 w9.heap.size 1 A6 M (strV (parL D M))) := Lib.hid (by
      refine reads_off R6.out hA6.out fun p hp hne => ?_
      rw [hb10.cell (p := p) (by omega), H87.out p hne, HB97.out.cell hp])
    have s910 : w9.heap.size ≤ w10.heap.size := by have := hb10.size; omega
    have s10 := HB10.out.size
    clear ho10 hb10
    obtain ⟨A10, c10, rfl, hc10, hr10⟩ := own_readsC HO10.out
    have R10 := Lib.hid hr10
    clear hr10 HO10 HR8
    have PC : Hid (∀ c j, c < M → j < Wd → (byteAt (sAt (parL (putL D W0 t) M) c) j ≠ byteAt (sAt (parL D M) c) j ↔ j = V0)) := Lib.hid (fun c j hc hj => par_chg D K Wd M c j W0 V0 t y DL.out (by omega) (by omega) DZ.out W1 HTZ.out hy HTB.out hc hj)
    have ZP : Hid (∀ c, c < M → (sAt (parL D M) c).size = Wd ∧ (sAt (parL (putL D W0 t) M) c).size = Wd) := Lib.hid (fun c hc => by
      have hp := (alike_put D K Wd W0 t DL.out DZ.out W1 HTZ.out).1
      rw [parL_size _ _ _ hc, parL_size _ _ _ hc]
      exact ⟨DZ.out 0 (by omega), hp 0 (by omega)⟩)
    go_wp2_with fail
    go_loopw [39] (fun i wr => ∃ c : Nat, c ≤ M ∧ i = .int .i64 c ∧ Hid (Below w10.heap.size w10 wr)) (fun i _ => M - (intOf i).toNat)
    case atStart => exact ⟨0, by omega, rfl, Lib.hid (Below.refl _ _)⟩
    case round =>
      obtain ⟨c, hc, rfl, HC⟩ := hrel
      by_cases hcl : c < M
      · obtain ⟨ap, rfl, hbp, hcp⟩ := R6'.out.str hcl
        obtain ⟨au, rfl, hbu, hcu⟩ := R10.out.str hcl
        obtain ⟨p1, hp1⟩ : ∃ p1, sAt (parL D M) c = p1 := ⟨_, rfl⟩
        obtain ⟨u1, hu1⟩ : ∃ u1, sAt (parL (putL D W0 t) M) c = u1 := ⟨_, rfl⟩
        have z1 := ZP.out c hcl
        rw [hp1, hu1] at z1
        obtain ⟨zp, zu⟩ := z1
        have PB : Hid (∀ j, j < Wd → (byteAt u1 j ≠ byteAt p1 j ↔ j = V0)) := Lib.hid (fun j hj => by have := PC.out c j hcl hj; rw [hp1, hu1] at this; exact this)
        have CC : Hid (∀ W, Below w10.heap.size w10 W → W.cell? (ap.add c) = some (.string p1) ∧ W.cell? (au.add c) = some (.string u1)) := Lib.hid (fun W hb => by
          refine ⟨(hb.cell (by rw [block_of_add]; omega)).trans ?_, (hb.cell (by rw [block_of_add]; exact hbu)).trans ?_⟩
          · rw [hcp c hcl, hp1]
          · rw [hcu c hcl, hu1])
        clear hcp hcu hp1 hu1
        have HZP := Lib.hid zp
        have HZU := Lib.hid zu
        clear zp zu
        obtain ⟨wo, rfl⟩ : ∃ wo : World, wo = wr := ⟨_, rfl⟩
        have HCO := Lib.hid HC.out
        clear HC
        go_wp2
        go_loopw [40] (fun i wr => ∃ j : Nat, j ≤ Wd ∧ i = .int .i64 j ∧ Hid (Below w10.heap.size w10 wr)) (fun i _ => Wd - (intOf i).toNat)
        case atStart => exact ⟨0, by omega, rfl, HCO⟩
        case round =>
          obtain ⟨j, hj, rfl, HJ⟩ := hrel
          by_cases hjl : j < Wd
          · obtain ⟨x1, x2⟩ := CC.out _ HJ.out
            have hju : j < u1.size := by rw [HZU.out]; exact hjl
            have hjp : j < p1.size := by rw [HZP.out]; exact hjl
            have hjui : (j : Int) < (u1.size : Int) := by omega
            have hjpi : (j : Int) < (p1.size : Int) := by omega
            have hzb : ((u1.size : Int) != (Wd : Int)) = false := by rw [HZU.out]; simp
            have hci : (c : Int) < (M : Int) := by omega
            have hT1 : (A : Int).tmod (Wd : Int) = (V0 : Int) := by rw [Int.tmod_eq_emod_of_nonneg (by omega)]; exact hVi
            have hzV : IntKind.i64.wrap (V0 : Int) = (V0 : Int) := IntWalk.i64_in _ (by omega)
            have hpb := PB.out j hjl
            rw [← byteAt_get _ _ hju, ← byteAt_get _ _ hjp] at hpb
            by_cases hjv : j = V0
            · have b1 : (((u1[j]'hju).toNat : Int) != ((p1[j]'hjp).toNat : Int)) = true := by
                rw [bne_iff_ne]
                intro h
                exact hpb.2 hjv (UInt8.toNat_inj.1 (by omega))
              have b2 : ((j : Int) == (V0 : Int)) = true := by rw [beq_iff_eq]; omega
              clear hpb hjv
              go_wp2
              go_quiet (fail)
              go_wp2
              go_roundw
              case rel => exact ⟨j + 1, by omega, by go_num, Lib.hid (below_drewN HJ.out _)⟩
              case measure => simp [intOf]; omega
            · have b1 : (((u1[j]'hju).toNat : Int) != ((p1[j]'hjp).toNat : Int)) = false := by
                rw [bne_eq_false_iff_eq]
                have : u1[j]'hju = p1[j]'hjp := Classical.byContradiction fun h => hjv (hpb.1 h)
                rw [this]
              have b2 : ((j : Int) == (V0 : Int)) = false := by rw [beq_eq_false_iff_ne]; omega
              clear hpb hjv
              go_wp2
              go_quiet (fail)
              go_wp2
              go_roundw
              case rel => exact ⟨j + 1, by omega, by go_num, Lib.hid (below_drewN HJ.out _)⟩
              case measure => simp [intOf]; omega
          · have HE := Lib.hid HJ.out
            obtain rfl : j = Wd := by omega
            go_wp2
            go_roundw
            case rel => exact ⟨c + 1, by omega, by go_num, HE⟩
            case measure => simp [intOf]; omega
      · obtain rfl : c = M := by omega
        have HE : Hid (Below w.heap.size w wr) := Lib.hid (HB10.out.trans (HC.out.mono s10))
        go_wp2
        go_ret
        exact ⟨rfl, HE.out⟩
end Go.Proofs.Ythlnnclpfgokjaa
