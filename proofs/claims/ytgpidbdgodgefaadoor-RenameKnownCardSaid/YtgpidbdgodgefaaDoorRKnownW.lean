/- The walk of RenameKnown: it answers true. Conditions: as the theorem names them. -/
import Derived.Test.YtgpidbdgodgefaaDoorKnown18
namespace Go.Proofs.YtgpidbdgodgefaaDoor
open Go.RowKit Go.Deep

def linkV : ChangeV := ⟨[97], 2, ⟨3, 0, 0, [120]⟩, zeroN⟩
theorem linkV_ch : Ch linkV := ⟨by decide, by decide +kernel, .inr (.inl ⟨rfl, by decide +kernel, rfl⟩)⟩

set_option maxHeartbeats 16000000 in
set_option maxRecDepth 100000 in
theorem renameKnown_any (m : Int) (w : World) (hm : w.cell? ⟨0, 0, none⟩ = some (.int .i64 m)) :
    Calls Tryd.prog 9 #[] w fun e w' => e = .returned (.bool true) ∧ Kp (fun _ => False) w w' := by
  have HM := Lib.hid hm
  have HK0 := Lib.hid (Kp.refl (fun _ => False) w)
  have hsf : ∀ (a : Addr) (b : Nat) (m : Mode) (w : World), (store a (.float .f64 b) m).run Tryd.prog w = stored Tryd.prog w a (.float .f64 b) m := fun a b m w => run_store _ w a _ m rfl
  clear hm
  go_enter Tryd.func9, Tryd.ntmps9
  go_wp2_with fail
  refine (come_any [97] [120] w (by decide)).mono ?_
  rintro e w1 ⟨a1, c1, rfl, ok1, hk1⟩
  have HK1 := Lib.hid (HK0.out.trans hk1)
  have HO1 := Lib.hid ok1
  clear hk1 ok1 HK0
  go_wp2_with fail
  refine (gone_any [98] [120] w1 (by decide)).mono ?_
  rintro e w2 ⟨a2, c2, rfl, ok2, hk2⟩
  have HK2 := Lib.hid (HK1.out.trans hk2)
  have HO2 := Lib.hid ok2
  replace HO1 := Lib.hid (HO1.out.keep hk2)
  clear hk2 ok2 HK1
  go_wp2_with fail
  refine (gone_any [99] [120] w2 (by decide)).mono ?_
  rintro e w3 ⟨a3, c3, rfl, ok3, hk3⟩
  have HK3 := Lib.hid (HK2.out.trans hk3)
  have HO3 := Lib.hid ok3
  replace HO1 := Lib.hid (HO1.out.keep hk3)
  replace HO2 := Lib.hid (HO2.out.keep hk3)
  clear hk3 ok3 HK2
  go_wp2_with fail
  refine (come_any [100] [120] w3 (by decide)).mono ?_
  rintro e w4 ⟨a4, c4, rfl, ok4, hk4⟩
  have HK4 := Lib.hid (HK3.out.trans hk4)
  have HO4 := Lib.hid ok4
  replace HO1 := Lib.hid (HO1.out.keep hk4)
  replace HO2 := Lib.hid (HO2.out.keep hk4)
  replace HO3 := Lib.hid (HO3.out.keep hk4)
  clear hk4 ok4 HK3
  go_wp2_with fail
  refine (gone_any [101] [121] w4 (by decide)).mono ?_
  rintro e w5 ⟨a5, c5, rfl, ok5, hk5⟩
  have HK5 := Lib.hid (HK4.out.trans hk5)
  have HO5 := Lib.hid ok5
  replace HO1 := Lib.hid (HO1.out.keep hk5)
  replace HO2 := Lib.hid (HO2.out.keep hk5)
  replace HO3 := Lib.hid (HO3.out.keep hk5)
  replace HO4 := Lib.hid (HO4.out.keep hk5)
  clear hk5 ok5 HK4
  go_wp2_with fail
  refine (come_any [102] [122] w5 (by decide)).mono ?_
  rintro e w6 ⟨a6, c6, rfl, ok6, hk6⟩
  have HK6 := Lib.hid (HK5.out.trans hk6)
  have HO6 := Lib.hid ok6
  replace HO1 := Lib.hid (HO1.out.keep hk6)
  replace HO2 := Lib.hid (HO2.out.keep hk6)
  replace HO3 := Lib.hid (HO3.out.keep hk6)
  replace HO4 := Lib.hid (HO4.out.keep hk6)
  replace HO5 := Lib.hid (HO5.out.keep hk6)
  clear hk6 ok6 HK5
  simp only [List.length_cons, List.length_nil]
  have ka : Kp (fun _ => False) w6 (w6.alloc (.cells #[.string ⟨#[97]⟩, .int .i64 1, .int .i64 0, .int .i64 0, .float .f64 0, .slice none 0 0, .int .i64 1, .int .i64 0, .float .f64 0, .slice a1 1 c1, .string ⟨#[98]⟩, .int .i64 2, .int .i64 1, .int .i64 0, .float .f64 0, .slice a2 1 c2, .int .i64 0, .int .i64 0, .float .f64 0, .slice none 0 0, .string ⟨#[99]⟩, .int .i64 2, .int .i64 1, .int .i64 0, .float .f64 0, .slice a3 1 c3, .int .i64 0, .int .i64 0, .float .f64 0, .slice none 0 0, .string ⟨#[100]⟩, .int .i64 1, .int .i64 0, .int .i64 0, .float .f64 0, .slice none 0 0, .int .i64 1, .int .i64 0, .float .f64 0, .slice a4 1 c4, .string ⟨#[101]⟩, .int .i64 2, .int .i64 1, .int .i64 0, .float .f64 0, .slice a5 1 c5, .int .i64 0, .int .i64 0, .float .f64 0, .slice none 0 0, .string ⟨#[102]⟩, .int .i64 1, .int .i64 0, .int .i64 0, .float .f64 0, .slice none 0 0, .int .i64 1, .int .i64 0, .float .f64 0, .slice a6 1 c6] 52)) := (Kp.refl _ w6).alloc _
  have hT : ChgsAt (w6.alloc (.cells #[.string ⟨#[97]⟩, .int .i64 1, .int .i64 0, .int .i64 0, .float .f64 0, .slice none 0 0, .int .i64 1, .int .i64 0, .float .f64 0, .slice a1 1 c1, .string ⟨#[98]⟩, .int .i64 2, .int .i64 1, .int .i64 0, .float .f64 0, .slice a2 1 c2, .int .i64 0, .int .i64 0, .float .f64 0, .slice none 0 0, .string ⟨#[99]⟩, .int .i64 2, .int .i64 1, .int .i64 0, .float .f64 0, .slice a3 1 c3, .int .i64 0, .int .i64 0, .float .f64 0, .slice none 0 0, .string ⟨#[100]⟩, .int .i64 1, .int .i64 0, .int .i64 0, .float .f64 0, .slice none 0 0, .int .i64 1, .int .i64 0, .float .f64 0, .slice a4 1 c4, .string ⟨#[101]⟩, .int .i64 2, .int .i64 1, .int .i64 0, .float .f64 0, .slice a5 1 c5, .int .i64 0, .int .i64 0, .float .f64 0, .slice none 0 0, .string ⟨#[102]⟩, .int .i64 1, .int .i64 0, .int .i64 0, .float .f64 0, .slice none 0 0, .int .i64 1, .int .i64 0, .float .f64 0, .slice a6 1 c6] 52)) (some ⟨w6.heap.size, 0, none⟩) [comeV [97] [120], goneV [98] [120], goneV [99] [120], comeV [100] [120], goneV [101] [121], comeV [102] [122]] :=
    chgs_row [⟨comeV [97] [120], none, 0, a1, c1⟩, ⟨goneV [98] [120], a2, c2, none, 0⟩, ⟨goneV [99] [120], a3, c3, none, 0⟩, ⟨comeV [100] [120], none, 0, a4, c4⟩, ⟨goneV [101] [121], a5, c5, none, 0⟩, ⟨comeV [102] [122], none, 0, a6, c6⟩] (hp_new w6 _) (fun i v h => by
      rw [← h]
      exact List.getElem?_toArray) (fun y hy => by
      simp only [List.mem_cons, List.not_mem_nil, or_false] at hy
      rcases hy with rfl | rfl | rfl | rfl | rfl | rfl
      · exact HO1.out.keep ka
      · exact HO2.out.keep ka
      · exact HO3.out.keep ka
      · exact HO4.out.keep ka
      · exact HO5.out.keep ka
      · exact HO6.out.keep ka)
  have HP := pairs_any (some ⟨w6.heap.size, 0, none⟩) 6 [comeV [97] [120], goneV [98] [120], goneV [99] [120], comeV [100] [120], goneV [101] [121], comeV [102] [122]] m _ (ka.cell (HK6.out.cell HM.out id) id) hT (by decide) (fun y hy => by
      simp only [List.mem_cons, List.not_mem_nil, or_false] at hy
      rcases hy with rfl | rfl | rfl | rfl | rfl | rfl
      · exact comeV_ch (by decide) (by decide +kernel) (by decide +kernel)
      · exact goneV_ch (by decide) (by decide +kernel) (by decide +kernel)
      · exact goneV_ch (by decide) (by decide +kernel) (by decide +kernel)
      · exact comeV_ch (by decide) (by decide +kernel) (by decide +kernel)
      · exact goneV_ch (by decide) (by decide +kernel) (by decide +kernel)
      · exact comeV_ch (by decide) (by decide +kernel) (by decide +kernel))
  rw [prsL_rise (by unfold RiseC; decide +kernel), show pairsL [comeV [97] [120], goneV [98] [120], goneV [99] [120], comeV [100] [120], goneV [101] [121], comeV [102] [122]] = [⟨[98], [97]⟩, ⟨[99], [100]⟩] by kernel_rfl] at HP
  replace HP := Lib.hid HP
  have HKa := Lib.hid (HK6.out.trans ka)
  clear hT ka HK6 HO1 HO2 HO3 HO4 HO5 HO6
  go_wp2_with fail
  refine HP.out.mono ?_
  rintro e w7 ⟨v, rfl, ho, hk7⟩
  have HK7 := Lib.hid (HKa.out.trans hk7)
  obtain ⟨pa, pc, rfl, hp⟩ := ho.pairs
  obtain ⟨b, off, rfl, p0, p1⟩ := hp 0 (by decide)
  have HPA := Lib.hid hp
  clear hk7 ho p0 p1 hp HP HKa
  simp only [List.length_cons, List.length_nil, Nat.zero_add]
  go_wp2_with fail
  refine (known18_any m w7 (HK7.out.cell HM.out id)).mono ?_
  rintro e w8 ⟨rfl, hk8⟩
  have HK8 := Lib.hid (HK7.out.trans hk8)
  have HPA8 := Lib.hid (HPA.out.keep hk8)
  clear hk8 HK7 HPA
  have hT1 := Lib.hid (to_any (some ⟨b, off, none⟩) pc [⟨[98], [97]⟩, ⟨[99], [100]⟩] [99] w8 HPA8.out (by decide))
  rw [show toL [⟨[98], [97]⟩, ⟨[99], [100]⟩] [99] = some [100] by kernel_rfl] at hT1
  go_wp2_with fail
  refine hT1.out.mono ?_
  rintro e w9 ⟨rfl, hk9⟩
  have HK9 := Lib.hid (HK8.out.trans hk9)
  have HPA9 := Lib.hid (HPA8.out.keep hk9)
  have hT2 := Lib.hid (to_any (some ⟨b, off, none⟩) pc [⟨[98], [97]⟩, ⟨[99], [100]⟩] [101] w9 HPA9.out (by decide))
  rw [show toL [⟨[98], [97]⟩, ⟨[99], [100]⟩] [101] = none by kernel_rfl] at hT2
  clear hk9 hT1 HK8 HPA8
  simp only [Option.getD_some, Option.isSome_some]
  go_wp2_with fail
  refine hT2.out.mono ?_
  rintro e w10 ⟨rfl, hk10⟩
  have HK10 := Lib.hid (HK9.out.trans hk10)
  have HPA10 := Lib.hid (HPA9.out.keep hk10)
  clear hk10 hT2 HK9 HPA9
  simp only [Option.getD_none, Option.isSome_none]
  have hidc : (convert 40 40 (.slice (some ⟨w10.heap.size, 0, none⟩) 1 1)).run Tryd.prog (w10.alloc (.cells #[.int .u8 120] 5)) = .ok (.slice (some ⟨w10.heap.size, 0, none⟩) 1 1) (w10.alloc (.cells #[.int .u8 120] 5 (1, 2))) := Lib.run_convert_bytes_const w10 40 5 #[.int .u8 120] 1 1 Tryd.underlying40 Tryd.underlying5
  have hS1 := sl_mark w10 #[.int .u8 120] 5 1 (1, 2) ([120] : List UInt8) rfl (by decide) rfl
  have k1 : Kp (fun _ => False) w10 (w10.alloc (.cells #[.int .u8 120] 5 (1, 2))) := (Kp.refl _ w10).alloc _
  have k2 : Kp (fun _ => False) (w10.alloc (.cells #[.int .u8 120] 5 (1, 2))) ((w10.alloc (.cells #[.int .u8 120] 5 (1, 2))).alloc (.cells #[.int .i64 3, .int .i64 0, .float .f64 0, .slice (some ⟨w10.heap.size, 0, none⟩) 1 1] 42)) := (Kp.refl _ _).alloc _
  have HSL := Lib.hid (hS1.keep k2 fun _ _ => id)
  have HKB := Lib.hid (HK10.out.trans (k1.trans k2))
  have HPB := Lib.hid ((HPA10.out.keep k1).keep k2)
  have HNB := Lib.hid (hp_new (w10.alloc (.cells #[.int .u8 120] 5 (1, 2))) (.cells #[.int .i64 3, .int .i64 0, .float .f64 0, .slice (some ⟨w10.heap.size, 0, none⟩) 1 1] 42))
  clear hS1 k1 k2
  go_wp2_with fail
  generalize hwb : ((w10.alloc (.cells #[.int .u8 120] 5 (1, 2))).alloc (.cells #[.int .i64 3, .int .i64 0, .float .f64 0, .slice (some ⟨w10.heap.size, 0, none⟩) 1 1] 42)) = wB at *
  rw [show (w10.alloc (.cells #[.int .u8 120] 5 (1, 2))).heap.size = w10.heap.size + 1 by simp] at HNB
  generalize w10.heap.size + 1 = q at *
  generalize (some ⟨w10.heap.size, 0, none⟩ : Option Addr) = la at *
  clear hwb hidc
  have HSK : Hid (∀ w', Kp (fun _ => False) wB w' → (w'.cell? ⟨b, off, none⟩ = some (.string ⟨#[98]⟩) ∧ w'.cell? ⟨b, off + 1, none⟩ = some (.string ⟨#[97]⟩) ∧ w'.cell? ⟨b, off + 2, none⟩ = some (.string ⟨#[99]⟩) ∧ w'.cell? ⟨b, off + 3, none⟩ = some (.string ⟨#[100]⟩) ∧ w'.cell? ⟨q, 0, none⟩ = some (.int .i64 3) ∧ w'.cell? ⟨q, 1, none⟩ = some (.int .i64 0) ∧ w'.cell? ⟨q, 2, none⟩ = some (.float .f64 0) ∧ w'.cell? ⟨q, 3, none⟩ = some (.slice la 1 1))) := fun w' k => by
    obtain ⟨b1, off1, e1, p0, p1⟩ := HPB.out 0 (by decide)
    cases e1
    obtain ⟨b2, off2, e2, p2, p3⟩ := HPB.out 1 (by decide)
    cases e2
    obtain ⟨q0, q1, q2, q3⟩ := cell_four (k.hp HNB.out id)
    exact ⟨k.cell p0 id, k.cell p1 id, k.cell p2 id, k.cell p3 id, q0, q1, q2, q3⟩
  have HCM : Hid (∀ w', Kp (fun _ => False) wB w' → w'.cell? ⟨0, 0, none⟩ = some (.int .i64 m)) := fun w' k => (HKB.out.trans k).cell HM.out id
  have hkd : Kp (fun _ => False) wB wB.drew := (Kp.refl _ wB).drew
  have HLd : (ChgP.mk linkV la 1 none 0).Ok wB.drew := ⟨⟨HSL.out.keep hkd fun _ _ => id, (by decide : (0 : Nat) < 18446744073709551616), (by decide : (1 : Nat) ≤ 140737488355328)⟩, ⟨Sl.nil _, (by decide : (0 : Nat) < 18446744073709551616), (by decide : (0 : Nat) ≤ 140737488355328)⟩⟩
  clear HSL HPB HNB
  refine wp_region_held_drew (S := fun w' => w'.cell? ⟨b, off, none⟩ = some (.string ⟨#[98]⟩) ∧ w'.cell? ⟨b, off + 1, none⟩ = some (.string ⟨#[97]⟩) ∧ w'.cell? ⟨b, off + 2, none⟩ = some (.string ⟨#[99]⟩) ∧ w'.cell? ⟨b, off + 3, none⟩ = some (.string ⟨#[100]⟩) ∧ w'.cell? ⟨q, 0, none⟩ = some (.int .i64 3) ∧ w'.cell? ⟨q, 1, none⟩ = some (.int .i64 0) ∧ w'.cell? ⟨q, 2, none⟩ = some (.float .f64 0) ∧ w'.cell? ⟨q, 3, none⟩ = some (.slice la 1 1)) (by kernel_rfl) (HSK.out _ hkd) (fun hS => ?_)
  refine wpAnyH_take (i := 0) (v := ?_) rfl (by kernel_rfl) (by kernel_rfl) (by kernel_rfl) (fun _ _ _ h => h) (Or.inl ⟨by rfl, ?_⟩) (by assumption) ?_
  rotate_left 1
  · (intro w hSw; (try dsimp only at hSw); go_simp; try with_reducible rfl)
  try simp only [Act.put, List.setIfInBounds_toArray, List.set_cons_zero, List.set_cons_succ, List.getElem_toArray, List.getElem_cons_zero]
  refine wpAnyH_take (i := 1) (v := ?_) rfl (by kernel_rfl) (by kernel_rfl) (by kernel_rfl) (fun _ _ _ h => h) (Or.inl ⟨by rfl, ?_⟩) (by assumption) ?_
  rotate_left 1
  · (intro w hSw; (try dsimp only at hSw); go_simp; try with_reducible rfl)
  try simp only [Act.put, List.setIfInBounds_toArray, List.set_cons_zero, List.set_cons_succ, List.getElem_toArray, List.getElem_cons_succ, List.getElem_cons_zero]
  refine wpAnyH_take (i := 2) (v := ?_) rfl (by kernel_rfl) (by kernel_rfl) (by kernel_rfl) (fun _ _ _ h => h) (Or.inl ⟨by rfl, ?_⟩) (by assumption) ?_
  rotate_left 1
  · (intro w hSw; (try dsimp only at hSw); go_simp; try with_reducible rfl)
  try simp only [Act.put, List.setIfInBounds_toArray, List.set_cons_zero, List.set_cons_succ, List.getElem_toArray, List.getElem_cons_succ, List.getElem_cons_zero]
  refine wpAnyH_take (i := 3) (v := ?_) rfl (by kernel_rfl) (by kernel_rfl) (by kernel_rfl) (fun _ _ _ h => h) (Or.inl ⟨by rfl, ?_⟩) (by assumption) ?_
  rotate_left 1
  · (intro w hSw; (try dsimp only at hSw); go_simp; try with_reducible rfl)
  try simp only [Act.put, List.setIfInBounds_toArray, List.set_cons_zero, List.set_cons_succ, List.getElem_toArray, List.getElem_cons_succ, List.getElem_cons_zero]
  refine wpAnyH_take (i := 4) (v := ?_) rfl (by kernel_rfl) (by kernel_rfl) (by kernel_rfl) (fun _ _ _ h => h) (Or.inl ⟨by rfl, ?_⟩) (by assumption) ?_
  rotate_left 1
  · (intro w hSw; (try dsimp only at hSw); go_simp; try with_reducible rfl)
  try simp only [Act.put, List.setIfInBounds_toArray, List.set_cons_zero, List.set_cons_succ, List.getElem_toArray, List.getElem_cons_succ, List.getElem_cons_zero]
  refine wpAnyH_take (i := 5) (v := ?_) rfl (by kernel_rfl) (by kernel_rfl) (by kernel_rfl) (fun _ _ _ h => h) (Or.inl ⟨by rfl, ?_⟩) (by assumption) ?_
  rotate_left 1
  · (intro w hSw; (try dsimp only at hSw); go_simp; try with_reducible rfl)
  try simp only [Act.put, List.setIfInBounds_toArray, List.set_cons_zero, List.set_cons_succ, List.getElem_toArray, List.getElem_cons_succ, List.getElem_cons_zero]
  refine wpAnyH_take (i := 6) (v := ?_) rfl (by kernel_rfl) (by kernel_rfl) (by kernel_rfl) (fun _ _ _ h => h) (Or.inl ⟨by rfl, ?_⟩) (by assumption) ?_
  rotate_left 1
  · (intro w hSw; (try dsimp only at hSw); go_simp; try with_reducible rfl)
  try simp only [Act.put, List.setIfInBounds_toArray, List.set_cons_zero, List.set_cons_succ, List.getElem_toArray, List.getElem_cons_succ, List.getElem_cons_zero]
  refine wpAnyH_take (i := 7) (v := ?_) rfl (by kernel_rfl) (by kernel_rfl) (by kernel_rfl) (fun _ _ _ h => h) (Or.inl ⟨by rfl, ?_⟩) (by assumption) ?_
  rotate_left 1
  · (intro w hSw; (try dsimp only at hSw); go_simp; try with_reducible rfl)
  try simp only [Act.put, List.setIfInBounds_toArray, List.set_cons_zero, List.set_cons_succ, List.getElem_toArray, List.getElem_cons_succ, List.getElem_cons_zero]
  refine wpAnyH_take (i := 8) (v := ?_) rfl (by kernel_rfl) (by kernel_rfl) (by kernel_rfl) (fun _ _ _ h => h) (Or.inl ⟨by rfl, ?_⟩) (by assumption) ?_
  rotate_left 1
  · (intro w hSw; (try dsimp only at hSw); go_simp; try with_reducible rfl)
  try simp only [Act.put, List.setIfInBounds_toArray, List.set_cons_zero, List.set_cons_succ, List.getElem_toArray, List.getElem_cons_succ, List.getElem_cons_zero]
  refine wpAnyH_take (i := 9) (v := ?_) rfl (by kernel_rfl) (by kernel_rfl) (by kernel_rfl) (fun _ _ _ h => h) (Or.inl ⟨by rfl, ?_⟩) (by assumption) ?_
  rotate_left 1
  · (intro w hSw; (try dsimp only at hSw); go_simp; try with_reducible rfl)
  try simp only [Act.put, List.setIfInBounds_toArray, List.set_cons_zero, List.set_cons_succ, List.getElem_toArray, List.getElem_cons_succ, List.getElem_cons_zero]
  refine wpAnyH_take (i := 10) (v := ?_) rfl (by kernel_rfl) (by kernel_rfl) (by kernel_rfl) (fun _ _ _ h => h) (Or.inl ⟨by rfl, ?_⟩) (by assumption) ?_
  rotate_left 1
  · (intro w hSw; (try dsimp only at hSw); go_simp; try with_reducible rfl)
  try simp only [Act.put, List.setIfInBounds_toArray, List.set_cons_zero, List.set_cons_succ, List.getElem_toArray, List.getElem_cons_succ, List.getElem_cons_zero]
  refine wpAnyH_take (i := 11) (v := ?_) rfl (by kernel_rfl) (by kernel_rfl) (by kernel_rfl) (fun _ _ _ h => h) (Or.inl ⟨by rfl, ?_⟩) (by assumption) ?_
  rotate_left 1
  · (intro w hSw; (try dsimp only at hSw); go_simp; try with_reducible rfl)
  try simp only [Act.put, List.setIfInBounds_toArray, List.set_cons_zero, List.set_cons_succ, List.getElem_toArray, List.getElem_cons_succ, List.getElem_cons_zero]
  refine wpAnyH_take (i := 12) (v := ?_) rfl (by kernel_rfl) (by kernel_rfl) (by kernel_rfl) (fun _ _ _ h => h) (Or.inl ⟨by rfl, ?_⟩) (by assumption) ?_
  rotate_left 1
  · (intro w hSw; (try dsimp only at hSw); go_simp; try with_reducible rfl)
  try simp only [Act.put, List.setIfInBounds_toArray, List.set_cons_zero, List.set_cons_succ, List.getElem_toArray, List.getElem_cons_succ, List.getElem_cons_zero]
  refine wpAnyH_take (i := 13) (v := ?_) rfl (by kernel_rfl) (by kernel_rfl) (by kernel_rfl) (fun _ _ _ h => h) (Or.inl ⟨by rfl, ?_⟩) (by assumption) ?_
  rotate_left 1
  · (intro w hSw; (try dsimp only at hSw); go_simp; try with_reducible rfl)
  try simp only [Act.put, List.setIfInBounds_toArray, List.set_cons_zero, List.set_cons_succ, List.getElem_toArray, List.getElem_cons_succ, List.getElem_cons_zero]
  refine wpAnyH_take (i := 14) (v := ?_) rfl (by kernel_rfl) (by kernel_rfl) (by kernel_rfl) (fun _ _ _ h => h) (Or.inl ⟨by rfl, ?_⟩) (by assumption) ?_
  rotate_left 1
  · (intro w hSw; (try dsimp only at hSw); go_simp; try with_reducible rfl)
  try simp only [Act.put, List.setIfInBounds_toArray, List.set_cons_zero, List.set_cons_succ, List.getElem_toArray, List.getElem_cons_succ, List.getElem_cons_zero]
  refine wpAnyH_take (i := 15) (v := ?_) rfl (by kernel_rfl) (by kernel_rfl) (by kernel_rfl) (fun _ _ _ h => h) (Or.inl ⟨by rfl, ?_⟩) (by assumption) ?_
  rotate_left 1
  · (intro w hSw; (try dsimp only at hSw); go_simp; try with_reducible rfl)
  try simp only [Act.put, List.setIfInBounds_toArray, List.set_cons_zero, List.set_cons_succ, List.getElem_toArray, List.getElem_cons_succ, List.getElem_cons_zero]
  refine wpAnyH_take (i := 16) (v := ?_) rfl (by kernel_rfl) (by kernel_rfl) (by kernel_rfl) (fun _ _ _ h => h) (Or.inl ⟨by rfl, ?_⟩) (by assumption) ?_
  rotate_left 1
  · (intro w hSw; (try dsimp only at hSw); go_simp; try with_reducible rfl)
  try simp only [Act.put, List.setIfInBounds_toArray, List.set_cons_zero, List.set_cons_succ, List.getElem_toArray, List.getElem_cons_succ, List.getElem_cons_zero]
  refine wpAnyH_take (i := 17) (v := ?_) rfl (by kernel_rfl) (by kernel_rfl) (by kernel_rfl) (fun _ _ _ h => h) (Or.inl ⟨by rfl, ?_⟩) (by assumption) ?_
  rotate_left 1
  · (intro w hSw; (try dsimp only at hSw); go_simp; try with_reducible rfl)
  try simp only [Act.put, List.setIfInBounds_toArray, List.set_cons_zero, List.set_cons_succ, List.getElem_toArray, List.getElem_cons_succ, List.getElem_cons_zero]
  refine wpAnyH_take (i := 18) (v := ?_) rfl (by kernel_rfl) (by kernel_rfl) (by kernel_rfl) (fun _ _ _ h => h) (Or.inl ⟨by rfl, ?_⟩) (by assumption) ?_
  rotate_left 1
  · (intro w hSw; (try dsimp only at hSw); go_simp; try with_reducible rfl)
  try simp only [Act.put, List.setIfInBounds_toArray, List.set_cons_zero, List.set_cons_succ, List.getElem_toArray, List.getElem_cons_succ, List.getElem_cons_zero]
  refine wpAnyH_take (i := 19) (v := ?_) rfl (by kernel_rfl) (by kernel_rfl) (by kernel_rfl) (fun _ _ _ h => h) (Or.inl ⟨by rfl, ?_⟩) (by assumption) ?_
  rotate_left 1
  · (intro w hSw; (try dsimp only at hSw); go_simp; try with_reducible rfl)
  try simp only [Act.put, List.setIfInBounds_toArray, List.set_cons_zero, List.set_cons_succ, List.getElem_toArray, List.getElem_cons_succ, List.getElem_cons_zero]
  refine wpAnyH_take (i := 20) (v := ?_) rfl (by kernel_rfl) (by kernel_rfl) (by kernel_rfl) (fun _ _ _ h => h) (Or.inl ⟨by rfl, ?_⟩) (by assumption) ?_
  rotate_left 1
  · (intro w hSw; (try dsimp only at hSw); go_simp; try with_reducible rfl)
  try simp only [Act.put, List.setIfInBounds_toArray, List.set_cons_zero, List.set_cons_succ, List.getElem_toArray, List.getElem_cons_succ, List.getElem_cons_zero]
  refine wpAnyH_take (i := 21) (v := ?_) rfl (by kernel_rfl) (by kernel_rfl) (by kernel_rfl) (fun _ _ _ h => h) (Or.inl ⟨by rfl, ?_⟩) (by assumption) ?_
  rotate_left 1
  · (intro w hSw; (try dsimp only at hSw); go_simp; try with_reducible rfl)
  try simp only [Act.put, List.setIfInBounds_toArray, List.set_cons_zero, List.set_cons_succ, List.getElem_toArray, List.getElem_cons_succ, List.getElem_cons_zero]
  refine wpAnyH_take (i := 22) (v := ?_) rfl (by kernel_rfl) (by kernel_rfl) (by kernel_rfl) (fun _ _ _ h => h) (Or.inl ⟨by rfl, ?_⟩) (by assumption) ?_
  rotate_left 1
  · (intro w hSw; (try dsimp only at hSw); go_simp; try with_reducible rfl)
  try simp only [Act.put, List.setIfInBounds_toArray, List.set_cons_zero, List.set_cons_succ, List.getElem_toArray, List.getElem_cons_succ, List.getElem_cons_zero]
  refine wpAnyH_take (i := 23) (v := ?_) rfl (by kernel_rfl) (by kernel_rfl) (by kernel_rfl) (fun _ _ _ h => h) (Or.inl ⟨by rfl, ?_⟩) (by assumption) ?_
  rotate_left 1
  · (intro w hSw; (try dsimp only at hSw); go_simp; try with_reducible rfl)
  try simp only [Act.put, List.setIfInBounds_toArray, List.set_cons_zero, List.set_cons_succ, List.getElem_toArray, List.getElem_cons_succ, List.getElem_cons_zero]
  refine wpAnyH_take (i := 24) (v := ?_) rfl (by kernel_rfl) (by kernel_rfl) (by kernel_rfl) (fun _ _ _ h => h) (Or.inl ⟨by rfl, ?_⟩) (by assumption) ?_
  rotate_left 1
  · (intro w hSw; (try dsimp only at hSw); go_simp; try with_reducible rfl)
  try simp only [Act.put, List.setIfInBounds_toArray, List.set_cons_zero, List.set_cons_succ, List.getElem_toArray, List.getElem_cons_succ, List.getElem_cons_zero]
  refine wpAnyH_take (i := 25) (v := ?_) rfl (by kernel_rfl) (by kernel_rfl) (by kernel_rfl) (fun _ _ _ h => h) (Or.inl ⟨by rfl, ?_⟩) (by assumption) ?_
  rotate_left 1
  · (intro w hSw; (try dsimp only at hSw); go_simp; try with_reducible rfl)
  try simp only [Act.put, List.setIfInBounds_toArray, List.set_cons_zero, List.set_cons_succ, List.getElem_toArray, List.getElem_cons_succ, List.getElem_cons_zero]
  refine wpAnyH_ready (rs := [26]) (by kernel_rfl) (by simp) (AllReadyH.cons rfl (fun K hK => ?_) AllReadyH.nil)
  go_simp
  refine (come_any [98] [120] _ (by decide)).mono ?_
  rintro e v26 ⟨x26, z26, rfl, ok26, hk⟩
  have hk26 := hkd.trans hk
  have HL26 := HLd.keep hk
  simp only [List.length_cons, List.length_nil]
  try go_wp2_with fail
  refine hK.out _ _ ?_ (fun hS => ?_)
  · first | exact HSK.out _ (by assumption) | exact HSK.out _ (Kp.alloc (by assumption) _)
  clear hK K
  try simp only [Act.put, List.setIfInBounds_toArray, List.set_cons_zero, List.set_cons_succ, List.getElem_toArray, List.getElem_cons_succ, List.getElem_cons_zero]
  refine wpAnyH_ready (rs := [27]) (by kernel_rfl) (by simp) (AllReadyH.cons rfl (fun K hK => ?_) AllReadyH.nil)
  go_simp
  refine hK.out _ _ ?_ (fun hS => ?_)
  · first | exact HSK.out _ (by assumption) | exact HSK.out _ (Kp.alloc (by assumption) _)
  clear hK K
  try simp only [Act.put, List.setIfInBounds_toArray, List.set_cons_zero, List.set_cons_succ, List.getElem_toArray, List.getElem_cons_succ, List.getElem_cons_zero]
  refine wpAnyH_ready (rs := [28]) (by kernel_rfl) (by simp) (AllReadyH.cons rfl (fun K hK => ?_) AllReadyH.nil)
  have ka28 : Kp (fun _ => False) v26 (v26.alloc (.cells #[.string ⟨#[97]⟩, .int .i64 2, .int .i64 3, .int .i64 0, .float .f64 0, .slice la 1 1, .int .i64 0, .int .i64 0, .float .f64 0, .slice none 0 0, .string ⟨#[98]⟩, .int .i64 1, .int .i64 0, .int .i64 0, .float .f64 0, .slice none 0 0, .int .i64 1, .int .i64 0, .float .f64 0, .slice x26 1 z26] 52)) := (Kp.refl _ v26).alloc _
  have HP28 := pairs_any (some ⟨v26.heap.size, 0, none⟩) 2 [linkV, comeV [98] [120]] m (v26.alloc (.cells #[.string ⟨#[97]⟩, .int .i64 2, .int .i64 3, .int .i64 0, .float .f64 0, .slice la 1 1, .int .i64 0, .int .i64 0, .float .f64 0, .slice none 0 0, .string ⟨#[98]⟩, .int .i64 1, .int .i64 0, .int .i64 0, .float .f64 0, .slice none 0 0, .int .i64 1, .int .i64 0, .float .f64 0, .slice x26 1 z26] 52)) (HCM.out _ (hk26.trans ka28)) (chgs_row [⟨linkV, la, 1, none, 0⟩, ⟨comeV [98] [120], none, 0, x26, z26⟩] (hp_new v26 _) (fun i v h => by
    rw [← h]
    exact List.getElem?_toArray) (fun y hy => by
    simp only [List.mem_cons, List.not_mem_nil, or_false] at hy
    rcases hy with rfl | rfl
    · exact HL26.keep ka28
    · exact ok26.keep ka28)) (by decide) (fun y hy => by
    simp only [List.mem_cons, List.not_mem_nil, or_false] at hy
    rcases hy with rfl | rfl
    · exact linkV_ch
    · exact comeV_ch (by decide) (by decide +kernel) (by decide +kernel))
  rw [prsL_rise (by unfold RiseC; decide +kernel), show pairsL [linkV, comeV [98] [120]] = [] by kernel_rfl] at HP28
  go_simp
  refine HP28.mono ?_
  rintro e v28 ⟨vv, rfl, ho, hk⟩
  have hk28 := hk26.trans (ka28.trans hk)
  obtain ⟨pa28, pc28, rfl, _⟩ := ho.pairs
  clear ho HP28
  simp only [List.length_nil]
  try go_wp2_with fail
  refine hK.out _ _ ?_ (fun hS => ?_)
  · first | exact HSK.out _ (by assumption) | exact HSK.out _ (Kp.alloc (by assumption) _)
  clear hK K
  try simp only [Act.put, List.setIfInBounds_toArray, List.set_cons_zero, List.set_cons_succ, List.getElem_toArray, List.getElem_cons_succ, List.getElem_cons_zero]
  refine wpAnyH_take (i := 29) (v := ?_) rfl (by kernel_rfl) (by kernel_rfl) (by kernel_rfl) (fun _ _ _ h => h) (Or.inl ⟨by rfl, ?_⟩) (by assumption) ?_
  rotate_left 1
  · (intro w hSw; (try dsimp only at hSw); go_simp; try with_reducible rfl)
  try simp only [Act.put, List.setIfInBounds_toArray, List.set_cons_zero, List.set_cons_succ, List.getElem_toArray, List.getElem_cons_succ, List.getElem_cons_zero]
  refine wpAnyH_take (i := 30) (v := ?_) rfl (by kernel_rfl) (by kernel_rfl) (by kernel_rfl) (fun _ _ _ h => h) (Or.inl ⟨by rfl, ?_⟩) (by assumption) ?_
  rotate_left 1
  · (intro w hSw; (try dsimp only at hSw); go_simp; try with_reducible rfl)
  try simp only [Act.put, List.setIfInBounds_toArray, List.set_cons_zero, List.set_cons_succ, List.getElem_toArray, List.getElem_cons_succ, List.getElem_cons_zero]
  refine wpAnyH_take (i := 31) (v := ?_) rfl (by kernel_rfl) (by kernel_rfl) (by kernel_rfl) (fun _ _ _ h => h) (Or.inl ⟨by rfl, ?_⟩) (by assumption) ?_
  rotate_left 1
  · (intro w hSw; (try dsimp only at hSw); go_simp; try with_reducible rfl)
  try simp only [Act.put, List.setIfInBounds_toArray, List.set_cons_zero, List.set_cons_succ, List.getElem_toArray, List.getElem_cons_succ, List.getElem_cons_zero]
  refine wpAnyH_take (i := 32) (v := ?_) rfl (by kernel_rfl) (by kernel_rfl) (by kernel_rfl) (fun _ _ _ h => h) (Or.inl ⟨by rfl, ?_⟩) (by assumption) ?_
  rotate_left 1
  · (intro w hSw; (try dsimp only at hSw); go_simp; try with_reducible rfl)
  try simp only [Act.put, List.setIfInBounds_toArray, List.set_cons_zero, List.set_cons_succ, List.getElem_toArray, List.getElem_cons_succ, List.getElem_cons_zero]
  refine wpAnyH_ready (rs := [33]) (by kernel_rfl) (by simp) (AllReadyH.cons rfl (fun K hK => ?_) AllReadyH.nil)
  go_simp
  refine (come_any [98] [120] v28 (by decide)).mono ?_
  rintro e v33 ⟨x33, z33, rfl, ok33, hk⟩
  have hk33 := hk28.trans hk
  simp only [List.length_cons, List.length_nil]
  try go_wp2_with fail
  refine hK.out _ _ ?_ (fun hS => ?_)
  · first | exact HSK.out _ (by assumption) | exact HSK.out _ (Kp.alloc (by assumption) _)
  clear hK K
  try simp only [Act.put, List.setIfInBounds_toArray, List.set_cons_zero, List.set_cons_succ, List.getElem_toArray, List.getElem_cons_succ, List.getElem_cons_zero]
  refine wpAnyH_ready (rs := [34]) (by kernel_rfl) (by simp) (AllReadyH.cons rfl (fun K hK => ?_) AllReadyH.nil)
  go_simp
  refine (gone_any [97] [120] v33 (by decide)).mono ?_
  rintro e v34 ⟨x34, z34, rfl, ok34, hk⟩
  have hk34 := hk33.trans hk
  have ok33b := ok33.keep hk
  simp only [List.length_cons, List.length_nil]
  try go_wp2_with fail
  refine hK.out _ _ ?_ (fun hS => ?_)
  · first | exact HSK.out _ (by assumption) | exact HSK.out _ (Kp.alloc (by assumption) _)
  clear hK K
  try simp only [Act.put, List.setIfInBounds_toArray, List.set_cons_zero, List.set_cons_succ, List.getElem_toArray, List.getElem_cons_succ, List.getElem_cons_zero]
  refine wpAnyH_ready (rs := [35]) (by kernel_rfl) (by simp) (AllReadyH.cons rfl (fun K hK => ?_) AllReadyH.nil)
  go_simp
  refine hK.out _ _ ?_ (fun hS => ?_)
  · first | exact HSK.out _ (by assumption) | exact HSK.out _ (Kp.alloc (by assumption) _)
  clear hK K
  try simp only [Act.put, List.setIfInBounds_toArray, List.set_cons_zero, List.set_cons_succ, List.getElem_toArray, List.getElem_cons_succ, List.getElem_cons_zero]
  refine wpAnyH_ready (rs := [36]) (by kernel_rfl) (by simp) (AllReadyH.cons rfl (fun K hK => ?_) AllReadyH.nil)
  have ka36 : Kp (fun _ => False) v34 (v34.alloc (.cells #[.string ⟨#[98]⟩, .int .i64 1, .int .i64 0, .int .i64 0, .float .f64 0, .slice none 0 0, .int .i64 1, .int .i64 0, .float .f64 0, .slice x33 1 z33, .string ⟨#[97]⟩, .int .i64 2, .int .i64 1, .int .i64 0, .float .f64 0, .slice x34 1 z34, .int .i64 0, .int .i64 0, .float .f64 0, .slice none 0 0] 52)) := (Kp.refl _ v34).alloc _
  have HP36 := pairs_any (some ⟨v34.heap.size, 0, none⟩) 2 [comeV [98] [120], goneV [97] [120]] m (v34.alloc (.cells #[.string ⟨#[98]⟩, .int .i64 1, .int .i64 0, .int .i64 0, .float .f64 0, .slice none 0 0, .int .i64 1, .int .i64 0, .float .f64 0, .slice x33 1 z33, .string ⟨#[97]⟩, .int .i64 2, .int .i64 1, .int .i64 0, .float .f64 0, .slice x34 1 z34, .int .i64 0, .int .i64 0, .float .f64 0, .slice none 0 0] 52)) (HCM.out _ (hk34.trans ka36)) (chgs_row [⟨comeV [98] [120], none, 0, x33, z33⟩, ⟨goneV [97] [120], x34, z34, none, 0⟩] (hp_new v34 _) (fun i v h => by
    rw [← h]
    exact List.getElem?_toArray) (fun y hy => by
    simp only [List.mem_cons, List.not_mem_nil, or_false] at hy
    rcases hy with rfl | rfl
    · exact ok33b.keep ka36
    · exact ok34.keep ka36)) (by decide) (fun y hy => by
    simp only [List.mem_cons, List.not_mem_nil, or_false] at hy
    rcases hy with rfl | rfl
    · exact comeV_ch (by decide) (by decide +kernel) (by decide +kernel)
    · exact goneV_ch (by decide) (by decide +kernel) (by decide +kernel))
  rw [prsL_none (by unfold RiseC; decide +kernel)] at HP36
  go_simp
  refine HP36.mono ?_
  rintro e v36 ⟨vv, rfl, ho, hk⟩
  have hk36 := hk34.trans (ka36.trans hk)
  obtain ⟨pa36, pc36, rfl, _⟩ := ho.pairs
  clear ho HP36
  simp only [List.length_nil]
  try go_wp2_with fail
  refine hK.out _ _ ?_ (fun hS => ?_)
  · first | exact HSK.out _ (by assumption) | exact HSK.out _ (Kp.alloc (by assumption) _)
  clear hK K
  try simp only [Act.put, List.setIfInBounds_toArray, List.set_cons_zero, List.set_cons_succ, List.getElem_toArray, List.getElem_cons_succ, List.getElem_cons_zero]
  refine wpAnyH_take (i := 37) (v := ?_) rfl (by kernel_rfl) (by kernel_rfl) (by kernel_rfl) (fun _ _ _ h => h) (Or.inl ⟨by rfl, ?_⟩) (by assumption) ?_
  rotate_left 1
  · (intro w hSw; (try dsimp only at hSw); go_simp; try with_reducible rfl)
  try simp only [Act.put, List.setIfInBounds_toArray, List.set_cons_zero, List.set_cons_succ, List.getElem_toArray, List.getElem_cons_succ, List.getElem_cons_zero]
  refine wpAnyH_take (i := 38) (v := ?_) rfl (by kernel_rfl) (by kernel_rfl) (by kernel_rfl) (fun _ _ _ h => h) (Or.inl ⟨by rfl, ?_⟩) (by assumption) ?_
  rotate_left 1
  · (intro w hSw; (try dsimp only at hSw); go_simp; try with_reducible rfl)
  try simp only [Act.put, List.setIfInBounds_toArray, List.set_cons_zero, List.set_cons_succ, List.getElem_toArray, List.getElem_cons_succ, List.getElem_cons_zero]
  refine wpAnyH_take (i := 39) (v := ?_) rfl (by kernel_rfl) (by kernel_rfl) (by kernel_rfl) (fun _ _ _ h => h) (Or.inl ⟨by rfl, ?_⟩) (by assumption) ?_
  rotate_left 1
  · (intro w hSw; (try dsimp only at hSw); go_simp; try with_reducible rfl)
  try simp only [Act.put, List.setIfInBounds_toArray, List.set_cons_zero, List.set_cons_succ, List.getElem_toArray, List.getElem_cons_succ, List.getElem_cons_zero]
  refine wpAnyH_take (i := 40) (v := ?_) rfl (by kernel_rfl) (by kernel_rfl) (by kernel_rfl) (fun _ _ _ h => h) (Or.inl ⟨by rfl, ?_⟩) (by assumption) ?_
  rotate_left 1
  · (intro w hSw; (try dsimp only at hSw); go_simp; try with_reducible rfl)
  try simp only [Act.put, List.setIfInBounds_toArray, List.set_cons_zero, List.getElem_toArray, List.getElem_cons_succ, List.getElem_cons_zero]
  refine wpAnyH_done (by kernel_rfl) ?_ _
  go_wp2
  go_ret
  exact ⟨by simp, HKB.out.trans hk36⟩
end Go.Proofs.YtgpidbdgodgefaaDoor
