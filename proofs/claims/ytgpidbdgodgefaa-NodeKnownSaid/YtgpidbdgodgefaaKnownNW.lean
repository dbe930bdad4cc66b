/- The walk of NodeKnown: it answers true and turns nothing that was there. No condition. -/
import Derived.Test.YtgpidbdgodgefaaSameW
import Derived.Test.YtgpidbdgodgefaaNodeLaw
import Derived.Test.YtgpidbdgodgefaaCopyOwn
import Derived.Test.YtgpidbdgodgefaaMake
namespace Go.Proofs.Ytgpidbdgodgefaa
open Go.RowKit Go.Deep

/-- The node of the example. -/
def exN : NodeV := ⟨3, 511, 9218868437227405312, [97, 47, 98]⟩
theorem exN_right : rightN exN = true := by decide +kernel
theorem exN_len : (layB exN).length = 16 := by decide +kernel
theorem exN_more : readN (layB exN ++ [0]) = none := by
  obtain ⟨_, h, _⟩ := take_laid exN_right (by decide) [0]
  unfold readN
  rw [h, if_neg (by simp)]

theorem sl_new' (w : World) (b : UInt8) (t : TypeId) (n : Nat) (hn : n = w.heap.size) : Sl (w.alloc (.cells #[byteV b] t)) (.slice (some ⟨n, 0, none⟩) 1 1) (some ⟨n, 0, none⟩) 1 [b] := by
  subst hn
  exact sl_new w b t

set_option maxHeartbeats 6000000 in
set_option maxRecDepth 100000 in
theorem nodeKnown_any (w : World) :
    Calls Try.prog 11 #[] w fun e w' => e = .returned (.bool true) ∧ Kp (fun _ => False) w w' := by
  have hsf : ∀ (a : Addr) (b : Nat) (m : Mode) (w : World), (store a (.float .f64 b) m).run Try.prog w = stored Try.prog w a (.float .f64 b) m := fun a b m w => run_store _ w a _ m rfl
  have hmk : ∀ u : World, (Instr.makeSlice 27 (.int .i64 2001) (.int .i64 2001)).run Try.prog u = .ok (.slice (some ⟨u.heap.size, 0, none⟩) 2001 2001) (u.alloc (.cells (madeCells #[.int .u8 0] 2001) 5)) := run_mk 2001 (by decide)
  have hfrom : ∀ (w : World), (callFunc 62 #[.int .u64 18444492273895866373]).run Try.prog w = .ok (.value (.float .f64 18444492273895866373)) w := fun w => run_frombits 18444492273895866373 w
  have kc3 : ∀ w : World, (convert 27 27 (.slice (some ⟨w.heap.size, 0, none⟩) 3 3)).run Try.prog (w.alloc (.cells #[.int .u8 97, .int .u8 47, .int .u8 98] 5)) = .ok (.slice (some ⟨w.heap.size, 0, none⟩) 3 3) (w.alloc (.cells #[.int .u8 97, .int .u8 47, .int .u8 98] 5 (3, 4))) := fun w => Lib.run_convert_bytes_const w 27 5 #[.int .u8 97, .int .u8 47, .int .u8 98] 3 3 Try.underlying27 Try.underlying5
  have kc1 : ∀ w : World, (convert 27 27 (.slice (some ⟨w.heap.size, 0, none⟩) 1 1)).run Try.prog (w.alloc (.cells #[.int .u8 120] 5)) = .ok (.slice (some ⟨w.heap.size, 0, none⟩) 1 1) (w.alloc (.cells #[.int .u8 120] 5 (1, 2))) := fun w => Lib.run_convert_bytes_const w 27 5 #[.int .u8 120] 1 1 Try.underlying27 Try.underlying5
  have kc2 : ∀ w : World, (convert 27 27 (.slice (some ⟨w.heap.size, 0, none⟩) 2 2)).run Try.prog (w.alloc (.cells #[.int .u8 97, .int .u8 0] 5)) = .ok (.slice (some ⟨w.heap.size, 0, none⟩) 2 2) (w.alloc (.cells #[.int .u8 97, .int .u8 0] 5 (2, 3))) := fun w => Lib.run_convert_bytes_const w 27 5 #[.int .u8 97, .int .u8 0] 2 2 Try.underlying27 Try.underlying5
  have kB : Kp (fun _ => False) w (w.alloc (.cells #[.int .u8 97, .int .u8 47, .int .u8 98] 5 (3, 4))) := (Kp.refl _ w).alloc _
  have HNA : Hid (NAt (w.alloc (.cells #[.int .u8 97, .int .u8 47, .int .u8 98] 5 (3, 4))) exN (some ⟨w.heap.size, 0, none⟩) 3) := ⟨sl_mark w _ _ 3 (3, 4) [97, 47, 98] rfl (by decide) rfl, by decide, by decide⟩
  have HA := Lib.hid (NB.new HNA.out)
  have HK := Lib.hid (kB.alloc (.cells #[.int .i64 3, .int .i64 511, .float .f64 9218868437227405312, .slice (some ⟨w.heap.size, 0, none⟩) 3 3] 57))
  have HBLK := Lib.hid (show w.heap.size < (w.alloc (.cells #[.int .u8 97, .int .u8 47, .int .u8 98] 5 (3, 4))).heap.size by simp)
  dsimp only [exN] at HA
  have HA1 : Hid (NB ((w.alloc (.cells #[.int .u8 97, .int .u8 47, .int .u8 98] 5 (3, 4))).alloc (.cells #[.int .i64 3, .int .i64 511, .float .f64 9218868437227405312, .slice (some ⟨w.heap.size, 0, none⟩) 3 3] 57)) exN (w.heap.size + 1) (some ⟨w.heap.size, 0, none⟩) 3) := by
    have h := HA.out
    rw [show (w.alloc (.cells #[.int .u8 97, .int .u8 47, .int .u8 98] 5 (3, 4))).heap.size = w.heap.size + 1 by simp] at h
    exact Lib.hid h
  clear kB HNA HA HBLK
  go_enter Try.func11, Try.ntmps11
  go_wp2_with fail
  refine (inf_pos w).mono ?_
  rintro e w' ⟨rfl, rfl⟩
  go_wp2_with fail
  generalize (w.alloc (.cells #[.int .u8 97, .int .u8 47, .int .u8 98] 5 (3, 4))).alloc (.cells #[.int .i64 3, .int .i64 511, .float .f64 9218868437227405312, .slice (some ⟨w.heap.size, 0, none⟩) 3 3] 57) = w1 at *
  generalize w.heap.size + 1 = na at *
  obtain ⟨c0, c1, c2, c3⟩ := cell_four HA1.out.hp
  dsimp only [exN] at c0 c1 c2 c3
  go_wp2_with fail
  refine (Lay_any exN (some ⟨w.heap.size, 0, none⟩) 3 w1 HA1.out.at').mono ?_
  rintro e w2 h2
  rcases h2 with ⟨_, v, rfl, hown, hk2⟩ | ⟨hf, _⟩
  case inr =>
    have := exN_right
    rw [hf] at this
    cases this
  obtain ⟨la, lc, hl, hlb, hlr⟩ := sl_of_owns hown
  have he := hl.eq
  subst he
  have HO2 := Lib.hid hown
  have HL2 := Lib.hid hl
  have HLR := Lib.hid hlr
  have HA2 := Lib.hid (HA1.out.keepF hk2)
  have HK2 := Lib.hid (HK.out.trans hk2)
  have HNA2 := Lib.hid (show na < w1.heap.size from hp_lt HA1.out.hp)
  have HDB2 := Lib.hid (show w.heap.size < w1.heap.size from HA1.out.at'.sl.lt (by decide) w.heap.size rfl)
  have HW12 := Lib.hid (show w1.heap.size ≤ w2.heap.size from hk2.size)
  have HLN := Lib.hid exN_len; have HMR := Lib.hid exN_more; have HRN := Lib.hid (readN_laid exN_right (by decide))
  clear hown hl hlb hlr hk2 HA1 HK c0 c1 c2 c3
  generalize layB exN = lb at *
  go_wp2_with fail
  refine (Read_any la lc lb w2 HL2.out (by rw [HLN.out]; decide)).mono ?_
  rintro e w3 ⟨hk3, ⟨o, oa, oc, hro, rfl, hno, hoa⟩ | ⟨hro, _⟩⟩
  case inr =>
    rw [HRN.out] at hro
    cases hro
  obtain rfl : exN = o := by
    rw [HRN.out] at hro
    exact Option.some.inj hro
  have HM4 : Hid (NB (w3.alloc (.cells #[.int .i64 3, .int .i64 511, .float .f64 9218868437227405312, .slice oa 3 oc] 57)) exN w3.heap.size oa oc) := NB.new hno
  have k4 := hk3.alloc (.cells #[.int .i64 3, .int .i64 511, .float .f64 9218868437227405312, .slice oa 3 oc] 57)
  have HA4 := Lib.hid (HA2.out.keepF k4)
  have HK4 := Lib.hid (HK2.out.trans k4)
  have HO4 := Lib.hid (owns_keep HO2.out k4 (fun _ _ => id))
  have HNM := Lib.hid (show w2.heap.size ≤ w3.heap.size from hk3.size)
  have HOA := Lib.hid hoa
  clear hk3 hro hno hoa k4 HA2 HK2 HL2 HRN HLR
  obtain ⟨ti, I⟩ := byteInfo
  have HO5 := Lib.hid (owns_keep HO4.out ((Kp.refl (fun _ => False) _).alloc (.cells #[.int .u8 0] 5)) (fun _ _ => id))
  unfold nodeVal
  dsimp only [exN]
  have HX5 : Hid (Sl ((w3.alloc (.cells #[.int .i64 3, .int .i64 511, .float .f64 9218868437227405312, .slice oa 3 oc] 57)).alloc (.cells #[.int .u8 0] 5)) (.slice (some ⟨w3.heap.size + 1, 0, none⟩) 1 1) (some ⟨w3.heap.size + 1, 0, none⟩) 1 [0]) := sl_new' _ 0 _ _ (by simp)
  have HB5 := Lib.hid (show w1.heap.size ≤ ((w3.alloc (.cells #[.int .i64 3, .int .i64 511, .float .f64 9218868437227405312, .slice oa 3 oc] 57)).alloc (.cells #[.int .u8 0] 5)).heap.size by have := HNM.out; have := HW12.out; simp; omega)
  go_wp2_with (at_builtin; refine wpList_append_sl rfl I w1.heap.size (.tmp 26) (.tmp 27) rfl (.slice la lb.length lc) lb rfl HO5.out HB5.out _ _ 1 [0] rfl HX5.out (by rw [HLN.out]; decide) ?_)
  intro v' w6 hown' hgr _
  have hown2 : w6.ownsRow w1.heap.size 5 1 v' (lb ++ [(0 : UInt8)]).length ((lb ++ [(0 : UInt8)]).map byteV) := by simpa using hown'
  obtain ⟨za, zc, hz, _, _⟩ := sl_of_owns hown2
  have he := hz.eq
  subst he
  have kA := (Kp.refl (fun _ => False) (w3.alloc (.cells #[.int .i64 3, .int .i64 511, .float .f64 9218868437227405312, .slice oa 3 oc] 57))).alloc (.cells #[.int .u8 0] 5)
  have k6 : Kp (fun b => w1.heap.size ≤ b ∧ b < w2.heap.size) (w3.alloc (.cells #[.int .i64 3, .int .i64 511, .float .f64 9218868437227405312, .slice oa 3 oc] 57)) w6 := (kA.mono (fun _ _ => False.elim)).grown hgr (fun b hb => .inl (owns_block HO2.out b hb))
  have HA6 := Lib.hid (HA4.out.keep k6 (fun h => by have := HNA2.out; omega) (fun _ b hb h => by cases hb; have h1 : w1.heap.size ≤ w.heap.size := h.1; have := HDB2.out; omega))
  have HM6 := Lib.hid (HM4.out.keep k6 (fun h => by have := HNM.out; omega) (fun _ b hb h => by have := HOA.out b hb; omega))
  have HK6 := Lib.hid (HK4.out.step k6 (fun i hi h => by have := HDB2.out; omega))
  have HZ6 := Lib.hid hz
  have HZL := Lib.hid (show (lb ++ [(0 : UInt8)]).length = 17 by rw [List.length_append, HLN.out]; rfl)
  have HWM := Lib.hid (show w.heap.size ≤ w6.heap.size from HK6.out.size)
  clear hown' hown2 hz hgr kA k6 HX5 HO5 HB5 HM4 HA4 HK4 HO4 HO2 HNM HOA
  generalize w3.heap.size = nm at *
  generalize lb ++ [(0 : UInt8)] = zb at *
  go_wp2_with fail
  refine (Read_any za zc zb w6 HZ6.out (by rw [HZL.out]; decide)).mono ?_
  rintro e w7 ⟨hk7, ⟨o, _, _, hro, _⟩ | ⟨_, rfl⟩⟩
  case inl =>
    rw [HMR.out] at hro
    cases hro
  have k8 := hk7.alloc (.cells #[.int .i64 0, .int .i64 0, .float .f64 0, .slice none 0 0] 57)
  have HA8 := Lib.hid (HA6.out.keepF k8); have HM8 := Lib.hid (HM6.out.keepF k8); have HK8 := Lib.hid (HK6.out.trans k8)
  clear hk7 k8 HA6 HM6 HK6 HZ6 HZL HMR
  unfold nodeVal
  dsimp only [List.length_nil]
  go_wp2_with fail
  generalize w7.alloc (.cells #[.int .i64 0, .int .i64 0, .float .f64 0, .slice none 0 0] 57) = w8 at *
  refine (Lay_any ⟨0, 0, 0, []⟩ none 0 w8 (nat_empty _ _ _ _ (by decide))).mono ?_
  rintro e w9 h9
  rcases h9 with ⟨hf, _⟩ | ⟨_, rfl, hk9⟩
  case inl =>
    have h0 : rightN ⟨0, 0, 0, []⟩ = false := by decide +kernel
    rw [hf] at h0
    cases h0
  have HA9 := Lib.hid (HA8.out.keepF hk9); have HM9 := Lib.hid (HM8.out.keepF hk9); have HK9 := Lib.hid (HK8.out.trans hk9)
  clear hk9 HA8 HM8 HK8
  obtain ⟨c0, c1, c2, c3⟩ := cell_four HA9.out.hp
  dsimp only [exN, List.length_cons, List.length_nil] at c0 c1 c2 c3
  go_wp2_with fail
  clear c0 c1 c2 c3
  refine (CopyOwn_any exN (some ⟨w.heap.size, 0, none⟩) 3 w9 HA9.out.at').mono ?_
  rintro e w10 ⟨ca, cc, rfl, hown, hk10⟩
  have HNMB := Lib.hid (show nm < w9.heap.size from hp_lt HM9.out.hp)
  have HOB := Lib.hid (show ∀ b, blk oa = some b → b < w9.heap.size from fun b hb => HM9.out.at'.sl.lt (by decide) b hb)
  have HNAB := Lib.hid (show na < w9.heap.size from hp_lt HA9.out.hp)
  have HDBB := Lib.hid (show w.heap.size < w9.heap.size from HA9.out.at'.sl.lt (by decide) w.heap.size rfl)
  have k11 := hk10.alloc (.cells #[.int .i64 3, .int .i64 511, .float .f64 9218868437227405312, .slice ca 3 cc] 57)
  have HA11 := Lib.hid (HA9.out.keepF k11); have HM11 := Lib.hid (HM9.out.keepF k11); have HK11 := Lib.hid (HK9.out.trans k11)
  have HC11 := Lib.hid (hp_new w10 (.cells #[.int .i64 3, .int .i64 511, .float .f64 9218868437227405312, .slice ca 3 cc] 57))
  have HO11 := Lib.hid (owns_keep hown ((Kp.refl (fun _ => False) w10).alloc (.cells #[.int .i64 3, .int .i64 511, .float .f64 9218868437227405312, .slice ca 3 cc] 57)) (fun _ _ => id))
  have HNC := Lib.hid (show ∀ b, Value.ownBlock (.slice ca 3 cc) = some b → b < w10.heap.size from fun b hb => (owns_block hown b hb).2)
  clear hk10 k11 hown HA9 HM9 HK9
  unfold nodeVal
  dsimp only [exN, List.length_cons, List.length_nil]
  go_wp2_with fail
  generalize w10.alloc (.cells #[.int .i64 3, .int .i64 511, .float .f64 9218868437227405312, .slice ca 3 cc] 57) = w11 at *
  generalize w10.heap.size = nc at *
  refine (known10_any w11).mono ?_
  rintro e w12 ⟨rfl, hk12⟩
  have HA12 := Lib.hid (HA11.out.keepF hk12); have HM12 := Lib.hid (HM11.out.keepF hk12); have HK12 := Lib.hid (HK11.out.trans hk12)
  have HC12 := Lib.hid (hk12.hp HC11.out id)
  have HO12 := Lib.hid (owns_keep HO11.out hk12 (fun _ _ => id))
  clear hk12 HA11 HM11 HK11 HC11 HO11
  obtain ⟨d0, d1, d2, d3⟩ := cell_four HC12.out
  obtain ⟨g, rfl⟩ : ∃ g, ca = some ⟨g, 0, none⟩ := by
    obtain ⟨_, h2 | ⟨g, cap, cur, hv, _⟩⟩ := HO12.out
    · exact absurd h2.2 (by decide)
    · simp only [Value.slice.injEq] at hv
      exact ⟨g, hv.1⟩
  have hcell : w12.cell? ⟨g, 0, none⟩ = some (.int .u8 97) := World.ownsRow.cellAt HO12.out 0 (by decide)
  have hfz := World.ownsRow.frozenAt HO12.out 0
  have hgl : g < w12.heap.size := (owns_block HO12.out g rfl).2
  have HG := Lib.hid (show w9.heap.size ≤ g ∧ g < nc from ⟨(owns_block HO12.out g rfl).1, HNC.out g rfl⟩)
  have kg : Kp (fun b => b = g) w12 (w12.setCell ⟨g, 0, none⟩ (.int .u8 120)) := (Kp.refl (fun b => b = g) w12).setCell ⟨g, 0, none⟩ (.inl rfl) _
  have HA13 := Lib.hid (HA12.out.keep kg (fun h => by have := HG.out; have := HNAB.out; omega) (fun _ b hb h => by cases hb; have h1 : w.heap.size = g := h; have := HDBB.out; have := HG.out; omega))
  have HM13 := Lib.hid (HM12.out.keep kg (fun h => by have := HG.out; have := HNMB.out; omega) (fun _ b hb h => by have := HOB.out b hb; have := HG.out; omega))
  have HK13 := Lib.hid (HK12.out.setCell ⟨g, 0, none⟩ (.inr (by show w.heap.size ≤ g; have := HDBB.out; have := HG.out; omega)) (.int .u8 120))
  obtain ⟨a0, a1, a2, a3⟩ := cell_four HA13.out.hp
  obtain ⟨m0, m1, m2, m3⟩ := cell_four HM13.out.hp
  dsimp only [exN, List.length_cons, List.length_nil] at a0 a1 a2 a3 m0 m1 m2 m3
  clear kg HO12 HC12 HA12 HM12 HK12
  have hln := HLN.out
  go_wp2_with fail
  clear hcell hfz d0 d1 d2 d3 hln
  generalize w12.setCell ⟨g, 0, none⟩ (.int .u8 120) = w13 at *
  refine (nodeSame_any exN exN (some ⟨w.heap.size, 0, none⟩) oa 3 oc w13 HA13.out.at' HM13.out.at').mono ?_
  rintro e w14 ⟨rfl, hk14⟩
  rw [sameN_refl]
  have HA14 := Lib.hid (HA13.out.keepF hk14); have HK14 := Lib.hid (HK13.out.trans hk14)
  have cv := run_conv HA14.out.at'.sl
  clear hk14 HA13 HM13 HK13 a0 a1 a2 a3 m0 m1 m2 m3
  obtain ⟨a0, a1, a2, a3⟩ := cell_four HA14.out.hp
  dsimp only [exN, List.length_cons, List.length_nil] at a0 a1 a2 a3 cv
  have cv' : (convert 27 9 (.slice (some ⟨w.heap.size, 0, none⟩) 3 3)).run Try.prog w14 = .ok (.string ⟨#[97, 47, 98]⟩) w14 := cv
  go_wp2_with fail
  clear a0 a1 a2 a3 cv cv'
  refine (right_any ⟨1, 0, 18444492273895866373, []⟩ none 0 w14 (nat_empty _ _ _ _ (by decide))).mono ?_
  rintro e w15 ⟨rfl, hk15⟩
  rw [show rightN ⟨1, 0, 18444492273895866373, []⟩ = false by decide +kernel]
  have HK15 := Lib.hid ((HK14.out).trans hk15)
  clear hk15
  go_wp2_with fail
  refine (right_any ⟨2, 0, 0, [120]⟩ (some ⟨w15.heap.size, 0, none⟩) 1 (w15.alloc (.cells #[.int .u8 120] 5 (1, 2))) ⟨sl_mark w15 _ _ 1 (1, 2) [120] rfl (by decide) rfl, by decide, by decide⟩).mono ?_
  rintro e w16 ⟨rfl, hk16⟩
  rw [show rightN ⟨2, 0, 0, [120]⟩ = false by decide +kernel]
  have HK16 := Lib.hid ((HK15.out.alloc (.cells #[.int .u8 120] 5 (1, 2))).trans hk16)
  clear hk16
  go_wp2_with fail
  refine (right_any ⟨3, 0, 0, []⟩ none 0 w16 (nat_empty _ _ _ _ (by decide))).mono ?_
  rintro e w17 ⟨rfl, hk17⟩
  rw [show rightN ⟨3, 0, 0, []⟩ = false by decide +kernel]
  have HK17 := Lib.hid ((HK16.out).trans hk17)
  clear hk17
  go_wp2_with fail
  refine (right_any ⟨3, 0, 0, [97, 0]⟩ (some ⟨w17.heap.size, 0, none⟩) 2 (w17.alloc (.cells #[.int .u8 97, .int .u8 0] 5 (2, 3))) ⟨sl_mark w17 _ _ 2 (2, 3) [97, 0] rfl (by decide) rfl, by decide, by decide⟩).mono ?_
  rintro e w18 ⟨rfl, hk18⟩
  rw [show rightN ⟨3, 0, 0, [97, 0]⟩ = false by decide +kernel]
  have HK18 := Lib.hid ((HK17.out.alloc (.cells #[.int .u8 97, .int .u8 0] 5 (2, 3))).trans hk18)
  clear hk18
  go_wp2_with fail
  refine (right_any ⟨4, 0, 0, []⟩ none 0 w18 (nat_empty _ _ _ _ (by decide))).mono ?_
  rintro e w19 ⟨rfl, hk19⟩
  rw [show rightN ⟨4, 0, 0, []⟩ = false by decide +kernel]
  have HK19 := Lib.hid ((HK18.out).trans hk19)
  clear hk19
  go_wp2_with fail
  refine (right_any ⟨1, 4096, 0, []⟩ none 0 w19 (nat_empty _ _ _ _ (by decide))).mono ?_
  rintro e w20 ⟨rfl, hk20⟩
  rw [show rightN ⟨1, 4096, 0, []⟩ = false by decide +kernel]
  have HK20 := Lib.hid ((HK19.out).trans hk20)
  clear hk20
  go_wp2_with fail
  have HR := right_any ⟨1, 0, 0, List.replicate 2001 0⟩ (some ⟨w20.heap.size, 0, none⟩) 2001 (w20.alloc (.cells (madeCells #[.int .u8 0] 2001) 5)) ⟨by simpa using sl_made w20 2001 5 (by decide), by decide, by simp⟩
  simp only [nodeVal, List.length_replicate] at HR
  refine HR.mono ?_
  rintro e w21 ⟨rfl, hk21⟩
  rw [show rightN ⟨1, 0, 0, List.replicate 2001 0⟩ = false by unfold rightN dataN; simp]
  have HK21 := Lib.hid ((HK20.out.alloc (.cells (madeCells #[.int .u8 0] 2001) 5)).trans hk21)
  clear hk21 HR
  go_wp2
  go_ret
  exact ⟨rfl, HK21.out⟩
end Go.Proofs.Ytgpidbdgodgefaa
