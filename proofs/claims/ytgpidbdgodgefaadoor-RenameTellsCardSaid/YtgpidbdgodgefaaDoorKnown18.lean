/- Chapter 18's example. Conditions: as the theorem names them. -/
import Derived.Test.YtgpidbdgodgefaaDoorRenC
namespace Go.Proofs.YtgpidbdgodgefaaDoor
open Go.RowKit Go.Deep

def goneV (p d : List UInt8) : ChangeV := ⟨p, 2, ⟨1, 0, 0, d⟩, zeroN⟩
def comeV (p d : List UInt8) : ChangeV := ⟨p, 1, zeroN, ⟨1, 0, 0, d⟩⟩
theorem goneV_ch {p d : List UInt8} (h : p ≠ []) (h1 : isPathB p = true) (h2 : rightN ⟨1, 0, 0, d⟩ = true) : Ch (goneV p d) := ⟨h, h1, .inr (.inl ⟨rfl, h2, rfl⟩)⟩
theorem comeV_ch {p d : List UInt8} (h : p ≠ []) (h1 : isPathB p = true) (h2 : rightN ⟨1, 0, 0, d⟩ = true) : Ch (comeV p d) := ⟨h, h1, .inl ⟨rfl, rfl, h2⟩⟩

set_option maxHeartbeats 4000000 in
set_option maxRecDepth 100000 in
theorem known18_any (m : Int) (w : World) (hm : w.cell? ⟨0, 0, none⟩ = some (.int .i64 m)) :
    Calls Tryd.prog 41 #[] w fun e w' => e = .returned (.bool true) ∧ Kp (fun _ => False) w w' := by
  have HM := Lib.hid hm
  clear hm
  go_enter Tryd.func41, Tryd.ntmps41
  go_wp2_with fail
  refine (gone_any [97] [120] w (by decide)).mono ?_
  rintro e w1 ⟨a1, c1, rfl, ok1, hk1⟩
  have HK1 := Lib.hid hk1
  have HO1 := Lib.hid ok1
  clear hk1 ok1
  go_wp2_with fail
  refine (come_any [98] [120] w1 (by decide)).mono ?_
  rintro e w2 ⟨a2, c2, rfl, ok2, hk2⟩
  have HK2 := Lib.hid (HK1.out.trans hk2)
  have HO2 := Lib.hid ok2
  replace HO1 := Lib.hid (HO1.out.keep hk2)
  clear hk2 ok2 HK1
  simp only [List.length_cons, List.length_nil]
  have ka : Kp (fun _ => False) w2 (w2.alloc (.cells #[.string ⟨#[97]⟩, .int .i64 2, .int .i64 1, .int .i64 0, .float .f64 0, .slice a1 1 c1, .int .i64 0, .int .i64 0, .float .f64 0, .slice none 0 0, .string ⟨#[98]⟩, .int .i64 1, .int .i64 0, .int .i64 0, .float .f64 0, .slice none 0 0, .int .i64 1, .int .i64 0, .float .f64 0, .slice a2 1 c2] 52)) := (Kp.refl _ w2).alloc _
  have hT : ChgsAt (w2.alloc (.cells #[.string ⟨#[97]⟩, .int .i64 2, .int .i64 1, .int .i64 0, .float .f64 0, .slice a1 1 c1, .int .i64 0, .int .i64 0, .float .f64 0, .slice none 0 0, .string ⟨#[98]⟩, .int .i64 1, .int .i64 0, .int .i64 0, .float .f64 0, .slice none 0 0, .int .i64 1, .int .i64 0, .float .f64 0, .slice a2 1 c2] 52)) (some ⟨w2.heap.size, 0, none⟩) [goneV [97] [120], comeV [98] [120]] :=
    chgs_row [⟨goneV [97] [120], a1, c1, none, 0⟩, ⟨comeV [98] [120], none, 0, a2, c2⟩] (hp_new w2 _) (fun i v h => by
      rw [← h]
      exact List.getElem?_toArray) (fun y hy => by
      simp only [List.mem_cons, List.not_mem_nil, or_false] at hy
      rcases hy with rfl | rfl
      · exact HO1.out.keep ka
      · exact HO2.out.keep ka)
  have HP := pairs_any (some ⟨w2.heap.size, 0, none⟩) 2 [goneV [97] [120], comeV [98] [120]] m _ (ka.cell (HK2.out.cell HM.out id) id) hT (by decide) (fun y hy => by
      simp only [List.mem_cons, List.not_mem_nil, or_false] at hy
      rcases hy with rfl | rfl
      · exact goneV_ch (by decide) (by decide +kernel) (by decide +kernel)
      · exact comeV_ch (by decide) (by decide +kernel) (by decide +kernel))
  rw [prsL_rise (by unfold RiseC; decide +kernel), show pairsL [goneV [97] [120], comeV [98] [120]] = [⟨[97], [98]⟩] by kernel_rfl] at HP
  replace HP := Lib.hid HP
  have HKa := Lib.hid (HK2.out.trans ka)
  clear hT ka
  go_wp2_with fail
  refine HP.out.mono ?_
  rintro e w3 ⟨v, rfl, ho, hk3⟩
  have HK3 := Lib.hid (HKa.out.trans hk3)
  obtain ⟨pa, pc, rfl, hp⟩ := ho.pairs
  obtain ⟨b, off, rfl, p0, p1⟩ := hp 0 (by decide)
  clear hk3 ho hp
  simp only [Nat.zero_mul, Nat.add_zero, List.getElem_cons_zero, List.length_cons, List.length_nil, Nat.zero_add] at p0 p1 ⊢
  go_wp2
  go_ret
  exact ⟨by simp, HK3.out⟩
end Go.Proofs.YtgpidbdgodgefaaDoor
