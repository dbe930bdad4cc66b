/- Changes that come and go: contracts of chapter 18's small functions. Conditions: as the theorems name them. -/
import Derived.Test.YtgpidbdgodgefaaDoorRenS
import Derived.Test.YtgpidbdgodgefaaDoorSome
namespace Go.Proofs.YtgpidbdgodgefaaDoor
open Go.RowKit Go.Deep
theorem set_w0 {w : World} {n : Nat} {a0 a1 a2 a3 a4 a5 a6 a7 a8 a9 : Value} {t : TypeId} (h : w.heap[n]? = some (.cells #[a0, a1, a2, a3, a4, a5, a6, a7, a8, a9] t (0, 0))) (v : Value) : (w.setCell ⟨n, 0, none⟩ v).heap[n]? = some (.cells #[v, a1, a2, a3, a4, a5, a6, a7, a8, a9] t (0, 0)) := by
  simp only [World.setCell, Array.getElem?_modify, h]
  simp
theorem set_w1 {w : World} {n : Nat} {a0 a1 a2 a3 a4 a5 a6 a7 a8 a9 : Value} {t : TypeId} (h : w.heap[n]? = some (.cells #[a0, a1, a2, a3, a4, a5, a6, a7, a8, a9] t (0, 0))) (v : Value) : (w.setCell ⟨n, 1, none⟩ v).heap[n]? = some (.cells #[a0, v, a2, a3, a4, a5, a6, a7, a8, a9] t (0, 0)) := by
  simp only [World.setCell, Array.getElem?_modify, h]
  simp
theorem set_w2 {w : World} {n : Nat} {a0 a1 a2 a3 a4 a5 a6 a7 a8 a9 : Value} {t : TypeId} (h : w.heap[n]? = some (.cells #[a0, a1, a2, a3, a4, a5, a6, a7, a8, a9] t (0, 0))) (v : Value) : (w.setCell ⟨n, 2, none⟩ v).heap[n]? = some (.cells #[a0, a1, v, a3, a4, a5, a6, a7, a8, a9] t (0, 0)) := by
  simp only [World.setCell, Array.getElem?_modify, h]
  simp
theorem set_w3 {w : World} {n : Nat} {a0 a1 a2 a3 a4 a5 a6 a7 a8 a9 : Value} {t : TypeId} (h : w.heap[n]? = some (.cells #[a0, a1, a2, a3, a4, a5, a6, a7, a8, a9] t (0, 0))) (v : Value) : (w.setCell ⟨n, 3, none⟩ v).heap[n]? = some (.cells #[a0, a1, a2, v, a4, a5, a6, a7, a8, a9] t (0, 0)) := by
  simp only [World.setCell, Array.getElem?_modify, h]
  simp
theorem set_w4 {w : World} {n : Nat} {a0 a1 a2 a3 a4 a5 a6 a7 a8 a9 : Value} {t : TypeId} (h : w.heap[n]? = some (.cells #[a0, a1, a2, a3, a4, a5, a6, a7, a8, a9] t (0, 0))) (v : Value) : (w.setCell ⟨n, 4, none⟩ v).heap[n]? = some (.cells #[a0, a1, a2, a3, v, a5, a6, a7, a8, a9] t (0, 0)) := by
  simp only [World.setCell, Array.getElem?_modify, h]
  simp
theorem set_w5 {w : World} {n : Nat} {a0 a1 a2 a3 a4 a5 a6 a7 a8 a9 : Value} {t : TypeId} (h : w.heap[n]? = some (.cells #[a0, a1, a2, a3, a4, a5, a6, a7, a8, a9] t (0, 0))) (v : Value) : (w.setCell ⟨n, 5, none⟩ v).heap[n]? = some (.cells #[a0, a1, a2, a3, a4, v, a6, a7, a8, a9] t (0, 0)) := by
  simp only [World.setCell, Array.getElem?_modify, h]
  simp
theorem set_w6 {w : World} {n : Nat} {a0 a1 a2 a3 a4 a5 a6 a7 a8 a9 : Value} {t : TypeId} (h : w.heap[n]? = some (.cells #[a0, a1, a2, a3, a4, a5, a6, a7, a8, a9] t (0, 0))) (v : Value) : (w.setCell ⟨n, 6, none⟩ v).heap[n]? = some (.cells #[a0, a1, a2, a3, a4, a5, v, a7, a8, a9] t (0, 0)) := by
  simp only [World.setCell, Array.getElem?_modify, h]
  simp
theorem set_w7 {w : World} {n : Nat} {a0 a1 a2 a3 a4 a5 a6 a7 a8 a9 : Value} {t : TypeId} (h : w.heap[n]? = some (.cells #[a0, a1, a2, a3, a4, a5, a6, a7, a8, a9] t (0, 0))) (v : Value) : (w.setCell ⟨n, 7, none⟩ v).heap[n]? = some (.cells #[a0, a1, a2, a3, a4, a5, a6, v, a8, a9] t (0, 0)) := by
  simp only [World.setCell, Array.getElem?_modify, h]
  simp
theorem set_w8 {w : World} {n : Nat} {a0 a1 a2 a3 a4 a5 a6 a7 a8 a9 : Value} {t : TypeId} (h : w.heap[n]? = some (.cells #[a0, a1, a2, a3, a4, a5, a6, a7, a8, a9] t (0, 0))) (v : Value) : (w.setCell ⟨n, 8, none⟩ v).heap[n]? = some (.cells #[a0, a1, a2, a3, a4, a5, a6, a7, v, a9] t (0, 0)) := by
  simp only [World.setCell, Array.getElem?_modify, h]
  simp
theorem set_w9 {w : World} {n : Nat} {a0 a1 a2 a3 a4 a5 a6 a7 a8 a9 : Value} {t : TypeId} (h : w.heap[n]? = some (.cells #[a0, a1, a2, a3, a4, a5, a6, a7, a8, a9] t (0, 0))) (v : Value) : (w.setCell ⟨n, 9, none⟩ v).heap[n]? = some (.cells #[a0, a1, a2, a3, a4, a5, a6, a7, a8, v] t (0, 0)) := by
  simp only [World.setCell, Array.getElem?_modify, h]
  simp
theorem frozen_ten {w : World} {n : Nat} {a0 a1 a2 a3 a4 a5 a6 a7 a8 a9 : Value} {t : TypeId} (h : w.heap[n]? = some (.cells #[a0, a1, a2, a3, a4, a5, a6, a7, a8, a9] t (0, 0))) :
    w.frozen? ⟨n, 0, none⟩ = false ∧ w.frozen? ⟨n, 1, none⟩ = false ∧ w.frozen? ⟨n, 2, none⟩ = false ∧ w.frozen? ⟨n, 3, none⟩ = false ∧ w.frozen? ⟨n, 4, none⟩ = false ∧ w.frozen? ⟨n, 5, none⟩ = false ∧ w.frozen? ⟨n, 6, none⟩ = false ∧ w.frozen? ⟨n, 7, none⟩ = false ∧ w.frozen? ⟨n, 8, none⟩ = false ∧ w.frozen? ⟨n, 9, none⟩ = false :=
  ⟨by simp [World.frozen?, h], by simp [World.frozen?, h], by simp [World.frozen?, h], by simp [World.frozen?, h], by simp [World.frozen?, h], by simp [World.frozen?, h], by simp [World.frozen?, h], by simp [World.frozen?, h], by simp [World.frozen?, h], by simp [World.frozen?, h]⟩
theorem cell_tens {w : World} {n : Nat} {a0 a1 a2 a3 a4 a5 a6 a7 a8 a9 : Value} {t : TypeId} (h : w.heap[n]? = some (.cells #[a0, a1, a2, a3, a4, a5, a6, a7, a8, a9] t (0, 0))) :
    w.cell? ⟨n, 0, none⟩ = some a0 ∧ w.cell? ⟨n, 1, none⟩ = some a1 ∧ w.cell? ⟨n, 2, none⟩ = some a2 ∧ w.cell? ⟨n, 3, none⟩ = some a3 ∧ w.cell? ⟨n, 4, none⟩ = some a4 ∧ w.cell? ⟨n, 5, none⟩ = some a5 ∧ w.cell? ⟨n, 6, none⟩ = some a6 ∧ w.cell? ⟨n, 7, none⟩ = some a7 ∧ w.cell? ⟨n, 8, none⟩ = some a8 ∧ w.cell? ⟨n, 9, none⟩ = some a9 :=
  ⟨by simp [World.cell?, h], by simp [World.cell?, h], by simp [World.cell?, h], by simp [World.cell?, h], by simp [World.cell?, h], by simp [World.cell?, h], by simp [World.cell?, h], by simp [World.cell?, h], by simp [World.cell?, h], by simp [World.cell?, h]⟩
/-- A change's cells are laid. -/
theorem chg_laid {w : World} {p : Nat} {a0 a1 a2 a3 a4 a5 a6 a7 a8 a9 : Value} {t : TypeId} (h : w.heap[p]? = some (.cells #[a0, a1, a2, a3, a4, a5, a6, a7, a8, a9] t (0, 0))) (v0 v1 v2 v3 v4 v5 v6 v7 v8 v9 : Value) (w0 : World) (hS : w0.heap.size ≤ p) (k : Kp (fun _ => False) w0 w) :
    ((((((((((w.setCell ⟨p, 0, none⟩ v0).setCell ⟨p, 1, none⟩ v1).setCell ⟨p, 2, none⟩ v2).setCell ⟨p, 3, none⟩ v3).setCell ⟨p, 4, none⟩ v4).setCell ⟨p, 5, none⟩ v5).setCell ⟨p, 6, none⟩ v6).setCell ⟨p, 7, none⟩ v7).setCell ⟨p, 8, none⟩ v8).setCell ⟨p, 9, none⟩ v9).heap[p]? = some (.cells #[v0, v1, v2, v3, v4, v5, v6, v7, v8, v9] t (0, 0)) ∧
    Kp (fun _ => False) w0 ((((((((((w.setCell ⟨p, 0, none⟩ v0).setCell ⟨p, 1, none⟩ v1).setCell ⟨p, 2, none⟩ v2).setCell ⟨p, 3, none⟩ v3).setCell ⟨p, 4, none⟩ v4).setCell ⟨p, 5, none⟩ v5).setCell ⟨p, 6, none⟩ v6).setCell ⟨p, 7, none⟩ v7).setCell ⟨p, 8, none⟩ v8).setCell ⟨p, 9, none⟩ v9) ∧
    Kp (fun b => b = p) w ((((((((((w.setCell ⟨p, 0, none⟩ v0).setCell ⟨p, 1, none⟩ v1).setCell ⟨p, 2, none⟩ v2).setCell ⟨p, 3, none⟩ v3).setCell ⟨p, 4, none⟩ v4).setCell ⟨p, 5, none⟩ v5).setCell ⟨p, 6, none⟩ v6).setCell ⟨p, 7, none⟩ v7).setCell ⟨p, 8, none⟩ v8).setCell ⟨p, 9, none⟩ v9) :=
  ⟨(set_w9 (set_w8 (set_w7 (set_w6 (set_w5 (set_w4 (set_w3 (set_w2 (set_w1 (set_w0 h _) _) _) _) _) _) _) _) _) _), ((((((((((k.setCell ⟨p, 0, none⟩ (.inr hS) _).setCell ⟨p, 1, none⟩ (.inr hS) _).setCell ⟨p, 2, none⟩ (.inr hS) _).setCell ⟨p, 3, none⟩ (.inr hS) _).setCell ⟨p, 4, none⟩ (.inr hS) _).setCell ⟨p, 5, none⟩ (.inr hS) _).setCell ⟨p, 6, none⟩ (.inr hS) _).setCell ⟨p, 7, none⟩ (.inr hS) _).setCell ⟨p, 8, none⟩ (.inr hS) _).setCell ⟨p, 9, none⟩ (.inr hS) _), (((((((((((Kp.refl (fun b => b = p) w).setCell ⟨p, 0, none⟩ (.inl rfl) _).setCell ⟨p, 1, none⟩ (.inl rfl) _).setCell ⟨p, 2, none⟩ (.inl rfl) _).setCell ⟨p, 3, none⟩ (.inl rfl) _).setCell ⟨p, 4, none⟩ (.inl rfl) _).setCell ⟨p, 5, none⟩ (.inl rfl) _).setCell ⟨p, 6, none⟩ (.inl rfl) _).setCell ⟨p, 7, none⟩ (.inl rfl) _).setCell ⟨p, 8, none⟩ (.inl rfl) _).setCell ⟨p, 9, none⟩ (.inl rfl) _)⟩

set_option maxHeartbeats 4000000 in
set_option maxRecDepth 100000 in
theorem come_any (p d : List UInt8) (w : World) (hl : d.length ≤ 1000000) :
    Calls Tryd.prog 39 #[.string ⟨p.toArray⟩, .string ⟨d.toArray⟩] w fun e w' => ∃ (ad : Option Addr) (cp : Nat), e = .returned (.agg #[.string ⟨p.toArray⟩, .int .i64 1, .int .i64 0, .int .i64 0, .float .f64 0, .slice none 0 0, .int .i64 1, .int .i64 0, .float .f64 0, .slice ad d.length cp]) ∧ (ChgP.mk ⟨p, 1, zeroN, ⟨1, 0, 0, d⟩⟩ none 0 ad cp).Ok w' ∧ Kp (fun _ => False) w w' := by
  have hsf : ∀ (a : Addr) (b : Nat) (m : Mode) (w : World), (store a (.float .f64 b) m).run Tryd.prog w = stored Tryd.prog w a (.float .f64 b) m := fun a b m w => run_store _ w a _ m rfl
  have hn0 := hp_new w (.cells #[.string ⟨#[]⟩, .int .i64 0, .int .i64 0, .int .i64 0, .float .f64 0, .slice none 0 0, .int .i64 0, .int .i64 0, .float .f64 0, .slice none 0 0] 52)
  have k0 : Kp (fun _ => False) w (w.alloc (.cells #[.string ⟨#[]⟩, .int .i64 0, .int .i64 0, .int .i64 0, .float .f64 0, .slice none 0 0, .int .i64 0, .int .i64 0, .float .f64 0, .slice none 0 0] 52)) := (Kp.refl _ w).alloc _
  obtain ⟨c, w1, hcv, hs1, hk1, hz1⟩ := conv_bytes d hl (w.alloc (.cells #[.string ⟨#[]⟩, .int .i64 0, .int .i64 0, .int .i64 0, .float .f64 0, .slice none 0 0, .int .i64 0, .int .i64 0, .float .f64 0, .slice none 0 0] 52))
  have hb0 : (w.alloc (.cells #[.string ⟨#[]⟩, .int .i64 0, .int .i64 0, .int .i64 0, .float .f64 0, .slice none 0 0, .int .i64 0, .int .i64 0, .float .f64 0, .slice none 0 0] 52)).heap.size = w.heap.size + 1 := by simp
  obtain ⟨b1, hb1⟩ : ∃ b1, (w.alloc (.cells #[.string ⟨#[]⟩, .int .i64 0, .int .i64 0, .int .i64 0, .float .f64 0, .slice none 0 0, .int .i64 0, .int .i64 0, .float .f64 0, .slice none 0 0] 52)).heap.size = b1 := ⟨_, rfl⟩
  rw [hb1] at hcv hs1 hb0
  have hne : b1 ≠ w.heap.size := by omega
  have hn1 := hk1.hp hn0 id
  have HN := Lib.hid hn1
  have HK := Lib.hid (k0.trans hk1)
  have HS := Lib.hid hs1
  obtain ⟨c0, c1, c2, c3, c4, c5, c6, c7, c8, c9⟩ := cell_tens hn1
  obtain ⟨f0, f1, f2, f3, f4, f5, f6, f7, f8, f9⟩ := frozen_ten hn1
  clear hn0 k0 hs1 hk1 hz1 hn1 hb1 hb0
  go_enter Tryd.func39, Tryd.ntmps39
  go_wp2
  obtain ⟨hl5, hk5, hk6⟩ := chg_laid HN.out (.string ⟨p.toArray⟩) (.int .i64 1) (.int .i64 0) (.int .i64 0) (.float .f64 0) (.slice none 0 0) (.int .i64 1) (.int .i64 0) (.float .f64 0) (.slice (some ⟨b1, 0, none⟩) d.length c) w (Nat.le_refl _) HK.out
  generalize ((((((((((w1.setCell ⟨w.heap.size, 0, none⟩ (.string ⟨p.toArray⟩)).setCell ⟨w.heap.size, 1, none⟩ (.int .i64 1)).setCell ⟨w.heap.size, 2, none⟩ (.int .i64 0)).setCell ⟨w.heap.size, 3, none⟩ (.int .i64 0)).setCell ⟨w.heap.size, 4, none⟩ (.float .f64 0)).setCell ⟨w.heap.size, 5, none⟩ (.slice none 0 0)).setCell ⟨w.heap.size, 6, none⟩ (.int .i64 1)).setCell ⟨w.heap.size, 7, none⟩ (.int .i64 0)).setCell ⟨w.heap.size, 8, none⟩ (.float .f64 0)).setCell ⟨w.heap.size, 9, none⟩ (.slice (some ⟨b1, 0, none⟩) d.length c)) = w5 at *
  obtain ⟨y0, y1, y2, y3, y4, y5, y6, y7, y8, y9⟩ := cell_tens hl5
  refine bodyPost_ret (v := .agg #[.string ⟨p.toArray⟩, .int .i64 1, .int .i64 0, .int .i64 0, .float .f64 0, .slice none 0 0, .int .i64 1, .int .i64 0, .float .f64 0, .slice (some ⟨b1, 0, none⟩) d.length c]) (by simp [results, Tryd.results39, go_sem, y0, y1, y2, y3, y4, y5, y6, y7, y8, y9]) rfl ?_
  exact ⟨some ⟨b1, 0, none⟩, c, rfl, ⟨⟨Sl.nil _, (by decide : (0 : Nat) < 18446744073709551616), (by decide : (0 : Nat) ≤ 140737488355328)⟩, ⟨HS.out.keep hk6 (fun b hb h => by cases hb; exact hne h), (by decide : (0 : Nat) < 18446744073709551616), by show d.length ≤ _; omega⟩⟩, hk5⟩

set_option maxHeartbeats 4000000 in
set_option maxRecDepth 100000 in
theorem gone_any (p d : List UInt8) (w : World) (hl : d.length ≤ 1000000) :
    Calls Tryd.prog 40 #[.string ⟨p.toArray⟩, .string ⟨d.toArray⟩] w fun e w' => ∃ (ad : Option Addr) (cp : Nat), e = .returned (.agg #[.string ⟨p.toArray⟩, .int .i64 2, .int .i64 1, .int .i64 0, .float .f64 0, .slice ad d.length cp, .int .i64 0, .int .i64 0, .float .f64 0, .slice none 0 0]) ∧ (ChgP.mk ⟨p, 2, ⟨1, 0, 0, d⟩, zeroN⟩ ad cp none 0).Ok w' ∧ Kp (fun _ => False) w w' := by
  have hsf : ∀ (a : Addr) (b : Nat) (m : Mode) (w : World), (store a (.float .f64 b) m).run Tryd.prog w = stored Tryd.prog w a (.float .f64 b) m := fun a b m w => run_store _ w a _ m rfl
  have hn0 := hp_new w (.cells #[.string ⟨#[]⟩, .int .i64 0, .int .i64 0, .int .i64 0, .float .f64 0, .slice none 0 0, .int .i64 0, .int .i64 0, .float .f64 0, .slice none 0 0] 52)
  have k0 : Kp (fun _ => False) w (w.alloc (.cells #[.string ⟨#[]⟩, .int .i64 0, .int .i64 0, .int .i64 0, .float .f64 0, .slice none 0 0, .int .i64 0, .int .i64 0, .float .f64 0, .slice none 0 0] 52)) := (Kp.refl _ w).alloc _
  obtain ⟨c, w1, hcv, hs1, hk1, hz1⟩ := conv_bytes d hl (w.alloc (.cells #[.string ⟨#[]⟩, .int .i64 0, .int .i64 0, .int .i64 0, .float .f64 0, .slice none 0 0, .int .i64 0, .int .i64 0, .float .f64 0, .slice none 0 0] 52))
  have hb0 : (w.alloc (.cells #[.string ⟨#[]⟩, .int .i64 0, .int .i64 0, .int .i64 0, .float .f64 0, .slice none 0 0, .int .i64 0, .int .i64 0, .float .f64 0, .slice none 0 0] 52)).heap.size = w.heap.size + 1 := by simp
  obtain ⟨b1, hb1⟩ : ∃ b1, (w.alloc (.cells #[.string ⟨#[]⟩, .int .i64 0, .int .i64 0, .int .i64 0, .float .f64 0, .slice none 0 0, .int .i64 0, .int .i64 0, .float .f64 0, .slice none 0 0] 52)).heap.size = b1 := ⟨_, rfl⟩
  rw [hb1] at hcv hs1 hb0
  have hne : b1 ≠ w.heap.size := by omega
  have hn1 := hk1.hp hn0 id
  have HN := Lib.hid hn1
  have HK := Lib.hid (k0.trans hk1)
  have HS := Lib.hid hs1
  obtain ⟨c0, c1, c2, c3, c4, c5, c6, c7, c8, c9⟩ := cell_tens hn1
  obtain ⟨f0, f1, f2, f3, f4, f5, f6, f7, f8, f9⟩ := frozen_ten hn1
  clear hn0 k0 hs1 hk1 hz1 hn1 hb1 hb0
  go_enter Tryd.func40, Tryd.ntmps40
  go_wp2
  obtain ⟨hl5, hk5, hk6⟩ := chg_laid HN.out (.string ⟨p.toArray⟩) (.int .i64 2) (.int .i64 1) (.int .i64 0) (.float .f64 0) (.slice (some ⟨b1, 0, none⟩) d.length c) (.int .i64 0) (.int .i64 0) (.float .f64 0) (.slice none 0 0) w (Nat.le_refl _) HK.out
  generalize ((((((((((w1.setCell ⟨w.heap.size, 0, none⟩ (.string ⟨p.toArray⟩)).setCell ⟨w.heap.size, 1, none⟩ (.int .i64 2)).setCell ⟨w.heap.size, 2, none⟩ (.int .i64 1)).setCell ⟨w.heap.size, 3, none⟩ (.int .i64 0)).setCell ⟨w.heap.size, 4, none⟩ (.float .f64 0)).setCell ⟨w.heap.size, 5, none⟩ (.slice (some ⟨b1, 0, none⟩) d.length c)).setCell ⟨w.heap.size, 6, none⟩ (.int .i64 0)).setCell ⟨w.heap.size, 7, none⟩ (.int .i64 0)).setCell ⟨w.heap.size, 8, none⟩ (.float .f64 0)).setCell ⟨w.heap.size, 9, none⟩ (.slice none 0 0)) = w5 at *
  obtain ⟨y0, y1, y2, y3, y4, y5, y6, y7, y8, y9⟩ := cell_tens hl5
  refine bodyPost_ret (v := .agg #[.string ⟨p.toArray⟩, .int .i64 2, .int .i64 1, .int .i64 0, .float .f64 0, .slice (some ⟨b1, 0, none⟩) d.length c, .int .i64 0, .int .i64 0, .float .f64 0, .slice none 0 0]) (by simp [results, Tryd.results40, go_sem, y0, y1, y2, y3, y4, y5, y6, y7, y8, y9]) rfl ?_
  exact ⟨some ⟨b1, 0, none⟩, c, rfl, ⟨⟨HS.out.keep hk6 (fun b hb h => by cases hb; exact hne h), (by decide : (0 : Nat) < 18446744073709551616), by show d.length ≤ _; omega⟩, ⟨Sl.nil _, (by decide : (0 : Nat) < 18446744073709551616), (by decide : (0 : Nat) ≤ 140737488355328)⟩⟩, hk5⟩
end Go.Proofs.YtgpidbdgodgefaaDoor
