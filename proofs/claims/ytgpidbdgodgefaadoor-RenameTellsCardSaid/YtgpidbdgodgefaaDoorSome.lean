/- The law file's tree of links (chapter 15): the contracts of item, some, known, leads. Conditions: as the theorems name them. -/
import Derived.Test.YtgpidbdgodgefaaDoorWalk2
import Derived.Laws.IdiomStrings
import Derived.Lib.SlBytesConst
namespace Go.Proofs.YtgpidbdgodgefaaDoor
open Go.RowKit

theorem conv_bytes (bs : List UInt8) (hl : bs.length ≤ 1000000) (w : World) : ∃ c w', (convert 9 40 (.string ⟨bs.toArray⟩)).run Tryd.prog w = .ok (.slice (some ⟨w.heap.size, 0, none⟩) bs.length c) w' ∧
    Sl w' (.slice (some ⟨w.heap.size, 0, none⟩) bs.length c) (some ⟨w.heap.size, 0, none⟩) c bs ∧ Kp (fun _ => False) w w' ∧ w'.heap.size = w.heap.size + 1 := by
  have h := run_bytes_of_string w 9 40 5 ⟨bs.toArray⟩ Tryd.underlying9 Tryd.underlying40 Tryd.underlying5
  have hs : (⟨bs.toArray⟩ : ByteArray).size = bs.length := by simp [ByteArray.size]
  rw [hs] at h
  refine ⟨_, _, h, ⟨rfl, grownCap_ge _ _ _ _, grownCap_le_maxLen _ _ _ _ (by unfold maxLen; omega), fun h => (by cases h), fun i hi => ⟨_, 0, rfl, ?_⟩⟩, ?_, ?_⟩
  · have h1 := bytesRow_at ⟨bs.toArray⟩ (grownCap w bs.length 0 5) i (by simpa using hi)
    have hh : ∀ (C : Array Value) (f : Nat × Nat), (w.drew.alloc (.cells C 5 f)).heap[w.heap.size]? = some (.cells C 5 f) := fun C f => by
      show (w.heap.push _)[w.heap.size]? = _
      simp
    simp only [World.cell?, hh, Nat.zero_add, h1]
    simp [byteV]
  · exact ((Kp.refl (fun _ => False) w).drew).alloc _
  · simp

/-- An item and where its data lies. -/
structure ItemP where
  x : ItemV
  ad : Option Addr
  cp : Nat
def ItemP.cells (y : ItemP) : List Value := [.string ⟨y.x.path.toArray⟩, .int .i64 y.x.kind, .int .i64 y.x.mode, .float .f64 y.x.time, .slice y.ad y.x.bs.length y.cp]
theorem cells_at5 : ∀ (l : List ItemP) (i j : Nat) (hi : i < l.length), j < 5 → (l.flatMap ItemP.cells)[i * 5 + j]? = (l[i].cells)[j]?
  | y :: l, 0, j, _, hj => by
    rw [List.flatMap_cons, List.getElem?_append_left (by show 0 * 5 + j < 5; omega)]
    simp
  | y :: l, i + 1, j, hi, hj => by
    rw [List.flatMap_cons, List.getElem?_append_right (by show 5 ≤ _; omega)]
    have e : (i + 1) * 5 + j - y.cells.length = i * 5 + j := by show (i + 1) * 5 + j - 5 = _; omega
    rw [e]
    exact cells_at5 l i j (by simpa using hi) hj
/-- Its data lies there. -/
def ItemP.Ok (w : World) (y : ItemP) : Prop := Sl w (.slice y.ad y.x.bs.length y.cp) y.ad y.cp y.x.bs ∧ y.x.time < 18446744073709551616 ∧ y.x.bs.length ≤ 140737488355328
theorem ItemP.Ok.keep {w w' : World} {y : ItemP} (h : y.Ok w) (k : Kp (fun _ => False) w w') : y.Ok w' := ⟨h.1.keep k (fun _ _ => id), h.2⟩
/-- A block that holds items. -/
theorem tree_row {w : World} {b : Nat} {T : TypeId} {fz : Nat × Nat} {cs : Array Value} (l : List ItemP) (h : w.heap[b]? = some (.cells cs T fz)) (hc : ∀ (i : Nat) (v : Value), (l.flatMap ItemP.cells)[i]? = some v → cs[i]? = some v) (hs : ∀ y ∈ l, y.Ok w) :
    TreeAt w (some ⟨b, 0, none⟩) (l.map (·.x)) := by
  intro i hi
  have hi2 : i < l.length := by simpa using hi
  have hok := hs l[i] (List.getElem_mem hi2)
  have hcell : ∀ j, j < 5 → ∀ v, (l[i].cells)[j]? = some v → w.cell? ⟨b, 0 + i * 5 + j, none⟩ = some v := fun j hj v hv => by
    have := hc (i * 5 + j) v (by rw [cells_at5 l i j hi2 hj]; exact hv)
    simpa [World.cell?, h] using this
  refine ⟨b, 0, l[i].ad, l[i].cp, rfl, ?_⟩
  rw [List.getElem_map]
  exact ⟨hcell 0 (by decide) _ rfl, hcell 1 (by decide) _ rfl, hcell 2 (by decide) _ rfl, hcell 3 (by decide) _ rfl, hcell 4 (by decide) _ rfl, hok.1, hok.2.1, hok.2.2⟩

theorem cell_five {w : World} {n : Nat} {a b c d e : Value} {t : TypeId} (h : w.heap[n]? = some (.cells #[a, b, c, d, e] t (0, 0))) :
    w.cell? ⟨n, 0, none⟩ = some a ∧ w.cell? ⟨n, 1, none⟩ = some b ∧ w.cell? ⟨n, 2, none⟩ = some c ∧ w.cell? ⟨n, 3, none⟩ = some d ∧ w.cell? ⟨n, 4, none⟩ = some e :=
  ⟨by simp [World.cell?, h], by simp [World.cell?, h], by simp [World.cell?, h], by simp [World.cell?, h], by simp [World.cell?, h]⟩

theorem frozen_five {w : World} {n : Nat} {a b c d e : Value} {t : TypeId} (h : w.heap[n]? = some (.cells #[a, b, c, d, e] t (0, 0))) :
    w.frozen? ⟨n, 0, none⟩ = false ∧ w.frozen? ⟨n, 1, none⟩ = false ∧ w.frozen? ⟨n, 2, none⟩ = false ∧ w.frozen? ⟨n, 3, none⟩ = false ∧ w.frozen? ⟨n, 4, none⟩ = false :=
  ⟨by simp [World.frozen?, h], by simp [World.frozen?, h], by simp [World.frozen?, h], by simp [World.frozen?, h], by simp [World.frozen?, h]⟩
theorem set_v0 {w : World} {n : Nat} {a b c d e v : Value} {t : TypeId} (h : w.heap[n]? = some (.cells #[a, b, c, d, e] t (0, 0))) : (w.setCell ⟨n, 0, none⟩ v).heap[n]? = some (.cells #[v, b, c, d, e] t (0, 0)) := by
  simp only [World.setCell, Array.getElem?_modify, h]
  simp
theorem set_v1 {w : World} {n : Nat} {a b c d e v : Value} {t : TypeId} (h : w.heap[n]? = some (.cells #[a, b, c, d, e] t (0, 0))) : (w.setCell ⟨n, 1, none⟩ v).heap[n]? = some (.cells #[a, v, c, d, e] t (0, 0)) := by
  simp only [World.setCell, Array.getElem?_modify, h]
  simp
theorem set_v2 {w : World} {n : Nat} {a b c d e v : Value} {t : TypeId} (h : w.heap[n]? = some (.cells #[a, b, c, d, e] t (0, 0))) : (w.setCell ⟨n, 2, none⟩ v).heap[n]? = some (.cells #[a, b, v, d, e] t (0, 0)) := by
  simp only [World.setCell, Array.getElem?_modify, h]
  simp
theorem set_v3 {w : World} {n : Nat} {a b c d e v : Value} {t : TypeId} (h : w.heap[n]? = some (.cells #[a, b, c, d, e] t (0, 0))) : (w.setCell ⟨n, 3, none⟩ v).heap[n]? = some (.cells #[a, b, c, v, e] t (0, 0)) := by
  simp only [World.setCell, Array.getElem?_modify, h]
  simp
theorem set_v4 {w : World} {n : Nat} {a b c d e v : Value} {t : TypeId} (h : w.heap[n]? = some (.cells #[a, b, c, d, e] t (0, 0))) : (w.setCell ⟨n, 4, none⟩ v).heap[n]? = some (.cells #[a, b, c, d, v] t (0, 0)) := by
  simp only [World.setCell, Array.getElem?_modify, h]
  simp
/-- An item's cells are laid. -/
theorem item_laid {w : World} {p : Nat} {a b c d e : Value} {t : TypeId} (h : w.heap[p]? = some (.cells #[a, b, c, d, e] t (0, 0))) (v0 v1 v2 v3 v4 : Value) (w0 : World) (hS : w0.heap.size ≤ p) (k : Kp (fun _ => False) w0 w) :
    (((((w.setCell ⟨p, 0, none⟩ v0).setCell ⟨p, 1, none⟩ v1).setCell ⟨p, 2, none⟩ v2).setCell ⟨p, 3, none⟩ v3).setCell ⟨p, 4, none⟩ v4).heap[p]? = some (.cells #[v0, v1, v2, v3, v4] t (0, 0)) ∧
    Kp (fun _ => False) w0 (((((w.setCell ⟨p, 0, none⟩ v0).setCell ⟨p, 1, none⟩ v1).setCell ⟨p, 2, none⟩ v2).setCell ⟨p, 3, none⟩ v3).setCell ⟨p, 4, none⟩ v4) ∧
    Kp (fun b => b = p) w (((((w.setCell ⟨p, 0, none⟩ v0).setCell ⟨p, 1, none⟩ v1).setCell ⟨p, 2, none⟩ v2).setCell ⟨p, 3, none⟩ v3).setCell ⟨p, 4, none⟩ v4) :=
  ⟨set_v4 (set_v3 (set_v2 (set_v1 (set_v0 h)))), ((((k.setCell ⟨p, 0, none⟩ (.inr hS) _).setCell ⟨p, 1, none⟩ (.inr hS) _).setCell ⟨p, 2, none⟩ (.inr hS) _).setCell ⟨p, 3, none⟩ (.inr hS) _).setCell ⟨p, 4, none⟩ (.inr hS) _,
   (((((Kp.refl (fun b => b = p) w).setCell ⟨p, 0, none⟩ (.inl rfl) _).setCell ⟨p, 1, none⟩ (.inl rfl) _).setCell ⟨p, 2, none⟩ (.inl rfl) _).setCell ⟨p, 3, none⟩ (.inl rfl) _).setCell ⟨p, 4, none⟩ (.inl rfl) _⟩

set_option maxHeartbeats 4000000 in
set_option maxRecDepth 100000 in
theorem item_any (p : List UInt8) (k : Int) (tb : List UInt8) (w : World) (hl : tb.length ≤ 1000000) :
    Calls Tryd.prog 81 #[.string ⟨p.toArray⟩, .int .i64 k, .string ⟨tb.toArray⟩] w fun e w' =>
      ∃ ad cp, e = .returned (.agg #[.string ⟨p.toArray⟩, .int .i64 k, .int .i64 0, .float .f64 0, .slice ad tb.length cp]) ∧ (ItemP.mk ⟨p, k, 0, 0, tb⟩ ad cp).Ok w' ∧ Kp (fun _ => False) w w' := by
  have hsf : ∀ (a : Addr) (b : Nat) (m : Mode) (w : World), (store a (.float .f64 b) m).run Tryd.prog w = stored Tryd.prog w a (.float .f64 b) m := fun a b m w => run_store _ w a _ m rfl
  have hn0 := hp_new w (.cells #[.string ⟨#[]⟩, .int .i64 0, .int .i64 0, .float .f64 0, .slice none 0 0] 44)
  have k0 : Kp (fun _ => False) w (w.alloc (.cells #[.string ⟨#[]⟩, .int .i64 0, .int .i64 0, .float .f64 0, .slice none 0 0] 44)) := (Kp.refl _ w).alloc _
  obtain ⟨c, w1, hcv, hs1, hk1, hz1⟩ := conv_bytes tb hl (w.alloc (.cells #[.string ⟨#[]⟩, .int .i64 0, .int .i64 0, .float .f64 0, .slice none 0 0] 44))
  have hb0 : (w.alloc (.cells #[.string ⟨#[]⟩, .int .i64 0, .int .i64 0, .float .f64 0, .slice none 0 0] 44)).heap.size = w.heap.size + 1 := by simp
  obtain ⟨b1, hb1⟩ : ∃ b1, (w.alloc (.cells #[.string ⟨#[]⟩, .int .i64 0, .int .i64 0, .float .f64 0, .slice none 0 0] 44)).heap.size = b1 := ⟨_, rfl⟩
  rw [hb1] at hcv hs1 hb0
  have hne : b1 ≠ w.heap.size := by omega
  have hn1 := hk1.hp hn0 id
  have HN := Lib.hid hn1
  have HK := Lib.hid (k0.trans hk1)
  have HS := Lib.hid hs1
  obtain ⟨c0, c1, c2, c3, c4⟩ := cell_five hn1
  obtain ⟨f0, f1, f2, f3, f4⟩ := frozen_five hn1
  clear hn0 k0 hs1 hk1 hz1 hn1 hb1 hb0
  go_enter Tryd.func81, Tryd.ntmps81
  go_wp2
  obtain ⟨hl5, hk5, hk6⟩ := item_laid HN.out (.string ⟨p.toArray⟩) (.int .i64 k) (.int .i64 0) (.float .f64 0) (.slice (some ⟨b1, 0, none⟩) tb.length c) w (Nat.le_refl _) HK.out
  generalize (((((w1.setCell ⟨w.heap.size, 0, none⟩ (.string ⟨p.toArray⟩)).setCell ⟨w.heap.size, 1, none⟩ (.int .i64 k)).setCell ⟨w.heap.size, 2, none⟩ (.int .i64 0)).setCell ⟨w.heap.size, 3, none⟩ (.float .f64 0)).setCell ⟨w.heap.size, 4, none⟩ (.slice (some ⟨b1, 0, none⟩) tb.length c)) = w5 at *
  obtain ⟨y0, y1, y2, y3, y4⟩ := cell_five hl5
  refine bodyPost_ret (v := .agg #[.string ⟨p.toArray⟩, .int .i64 k, .int .i64 0, .float .f64 0, .slice (some ⟨b1, 0, none⟩) tb.length c]) (by simp [results, Tryd.results81, go_sem, y0, y1, y2, y3, y4]) rfl ?_
  exact ⟨_, c, rfl, ⟨HS.out.keep hk6 (fun b hb h => by cases hb; exact hne h), (by decide : (0 : Nat) < 18446744073709551616), by show tb.length ≤ _; omega⟩, hk5⟩
/-- The law file's tree. -/
def someL : List ItemV := [⟨[100], 2, 0, 0, []⟩, ⟨[100, 47, 102], 1, 0, 0, [120]⟩, ⟨[100, 47, 117, 112], 3, 0, 0, [46, 46, 47, 108]⟩, ⟨[108], 3, 0, 0, [100]⟩, ⟨[108, 111, 111, 112], 3, 0, 0, [46, 47, 108, 111, 111, 112]⟩, ⟨[114], 3, 0, 0, [47, 100, 47, 47, 102]⟩, ⟨[115], 3, 0, 0, [110, 111, 110, 101, 47, 120]⟩]

set_option maxHeartbeats 4000000 in
set_option maxRecDepth 100000 in
theorem some_any (w : World) :
    Calls Tryd.prog 59 #[] w fun e w' => ∃ b, e = .returned (.slice (some ⟨b, 0, none⟩) 7 7) ∧ TreeAt w' (some ⟨b, 0, none⟩) someL ∧ Kp (fun _ => False) w w' := by
  go_enter Tryd.func59, Tryd.ntmps59
  go_wp2_with fail
  refine (item_any [100] 2 [] w (by decide)).mono ?_
  rintro e w1 ⟨a1, c1, rfl, ok1, hk1⟩
  have HK1 := Lib.hid hk1
  have HO1 := Lib.hid ok1
  clear hk1 ok1
  go_wp2_with fail
  refine (item_any [100, 47, 102] 1 [120] w1 (by decide)).mono ?_
  rintro e w2 ⟨a2, c2, rfl, ok2, hk2⟩
  have HK2 := Lib.hid (HK1.out.trans hk2)
  have HO2 := Lib.hid ok2
  replace HO1 := Lib.hid (HO1.out.keep hk2)
  clear hk2 ok2 HK1
  go_wp2_with fail
  refine (item_any [100, 47, 117, 112] 3 [46, 46, 47, 108] w2 (by decide)).mono ?_
  rintro e w3 ⟨a3, c3, rfl, ok3, hk3⟩
  have HK3 := Lib.hid (HK2.out.trans hk3)
  have HO3 := Lib.hid ok3
  replace HO1 := Lib.hid (HO1.out.keep hk3)
  replace HO2 := Lib.hid (HO2.out.keep hk3)
  clear hk3 ok3 HK2
  go_wp2_with fail
  refine (item_any [108] 3 [100] w3 (by decide)).mono ?_
  rintro e w4 ⟨a4, c4, rfl, ok4, hk4⟩
  have HK4 := Lib.hid (HK3.out.trans hk4)
  have HO4 := Lib.hid ok4
  replace HO1 := Lib.hid (HO1.out.keep hk4)
  replace HO2 := Lib.hid (HO2.out.keep hk4)
  replace HO3 := Lib.hid (HO3.out.keep hk4)
  clear hk4 ok4 HK3
  go_wp2_with fail
  refine (item_any [108, 111, 111, 112] 3 [46, 47, 108, 111, 111, 112] w4 (by decide)).mono ?_
  rintro e w5 ⟨a5, c5, rfl, ok5, hk5⟩
  have HK5 := Lib.hid (HK4.out.trans hk5)
  have HO5 := Lib.hid ok5
  replace HO1 := Lib.hid (HO1.out.keep hk5)
  replace HO2 := Lib.hid (HO2.out.keep hk5)
  replace HO3 := Lib.hid (HO3.out.keep hk5)
  replace HO4 := Lib.hid (HO4.out.keep hk5)
  clear hk5 ok5 HK4
  go_wp2_with fail
  refine (item_any [114] 3 [47, 100, 47, 47, 102] w5 (by decide)).mono ?_
  rintro e w6 ⟨a6, c6, rfl, ok6, hk6⟩
  have HK6 := Lib.hid (HK5.out.trans hk6)
  have HO6 := Lib.hid ok6
  replace HO1 := Lib.hid (HO1.out.keep hk6)
  replace HO2 := Lib.hid (HO2.out.keep hk6)
  replace HO3 := Lib.hid (HO3.out.keep hk6)
  replace HO4 := Lib.hid (HO4.out.keep hk6)
  replace HO5 := Lib.hid (HO5.out.keep hk6)
  clear hk6 ok6 HK5
  go_wp2_with fail
  refine (item_any [115] 3 [110, 111, 110, 101, 47, 120] w6 (by decide)).mono ?_
  rintro e w7 ⟨a7, c7, rfl, ok7, hk7⟩
  have HK7 := Lib.hid (HK6.out.trans hk7)
  have HO7 := Lib.hid ok7
  replace HO1 := Lib.hid (HO1.out.keep hk7)
  replace HO2 := Lib.hid (HO2.out.keep hk7)
  replace HO3 := Lib.hid (HO3.out.keep hk7)
  replace HO4 := Lib.hid (HO4.out.keep hk7)
  replace HO5 := Lib.hid (HO5.out.keep hk7)
  replace HO6 := Lib.hid (HO6.out.keep hk7)
  clear hk7 ok7 HK6
  go_wp2
  go_ret
  have ka : Kp (fun _ => False) w7 (w7.alloc (.cells #[.string ⟨#[100]⟩, .int .i64 2, .int .i64 0, .float .f64 0, .slice a1 0 c1, .string ⟨#[100, 47, 102]⟩, .int .i64 1, .int .i64 0, .float .f64 0, .slice a2 1 c2, .string ⟨#[100, 47, 117, 112]⟩, .int .i64 3, .int .i64 0, .float .f64 0, .slice a3 4 c3, .string ⟨#[108]⟩, .int .i64 3, .int .i64 0, .float .f64 0, .slice a4 1 c4, .string ⟨#[108, 111, 111, 112]⟩, .int .i64 3, .int .i64 0, .float .f64 0, .slice a5 6 c5, .string ⟨#[114]⟩, .int .i64 3, .int .i64 0, .float .f64 0, .slice a6 5 c6, .string ⟨#[115]⟩, .int .i64 3, .int .i64 0, .float .f64 0, .slice a7 6 c7] 44)) := (Kp.refl _ w7).alloc _
  refine ⟨w7.heap.size, rfl, ?_, HK7.out.alloc _⟩
  refine tree_row [⟨⟨[100], 2, 0, 0, []⟩, a1, c1⟩, ⟨⟨[100, 47, 102], 1, 0, 0, [120]⟩, a2, c2⟩, ⟨⟨[100, 47, 117, 112], 3, 0, 0, [46, 46, 47, 108]⟩, a3, c3⟩, ⟨⟨[108], 3, 0, 0, [100]⟩, a4, c4⟩, ⟨⟨[108, 111, 111, 112], 3, 0, 0, [46, 47, 108, 111, 111, 112]⟩, a5, c5⟩, ⟨⟨[114], 3, 0, 0, [47, 100, 47, 47, 102]⟩, a6, c6⟩, ⟨⟨[115], 3, 0, 0, [110, 111, 110, 101, 47, 120]⟩, a7, c7⟩] (hp_new w7 _) (fun i v h => ?_) (fun y hy => ?_)
  · rw [← h]
    exact List.getElem?_toArray
  · simp only [List.mem_cons, List.not_mem_nil, or_false] at hy
    rcases hy with rfl | rfl | rfl | rfl | rfl | rfl | rfl
    · exact HO1.out.keep ka
    · exact HO2.out.keep ka
    · exact HO3.out.keep ka
    · exact HO4.out.keep ka
    · exact HO5.out.keep ka
    · exact HO6.out.keep ka
    · exact HO7.out.keep ka

set_option maxHeartbeats 2000000 in
set_option maxRecDepth 100000 in
theorem known15_any (m : Int) (w : World) (hm : w.cell? ⟨0, 0, none⟩ = some (.int .i64 m)) :
    Calls Tryd.prog 34 #[] w fun e w' => e = .returned (.bool true) ∧ Kp (fun _ => False) w w' := by
  have HM := Lib.hid hm
  clear hm
  go_enter Tryd.func34, Tryd.ntmps34
  go_wp2_with fail
  refine (some_any w).mono ?_
  rintro e w1 ⟨b, rfl, hT, hk1⟩
  have HW := Lib.hid (Walk_any (some ⟨b, 0, none⟩) 7 someL [108, 47, 120] false m w1 (hk1.cell HM.out id) hT (by decide) (by decide))
  rw [show walkT someL [108, 47, 120] false = ([100, 47, 120], false, 0) by decide +kernel] at HW
  have HK1 := Lib.hid hk1
  clear hT hk1
  go_wp2_with fail
  refine HW.out.mono ?_
  rintro e w2 ⟨rfl, hk2⟩
  have HK2 := Lib.hid (HK1.out.trans hk2)
  clear hk2 HW
  go_wp2
  go_ret
  exact ⟨rfl, HK2.out⟩

set_option maxHeartbeats 2000000 in
set_option maxRecDepth 100000 in
theorem leads_any (s : List UInt8) (follow : Bool) (want : List UInt8) (there : Bool) (why m : Int) (w : World) (hm : w.cell? ⟨0, 0, none⟩ = some (.int .i64 m)) (hs : s.length ≤ 1000000) (hD : walkT someL s follow = (want, there, why)) :
    Calls Tryd.prog 35 #[.string ⟨s.toArray⟩, .bool follow, .string ⟨want.toArray⟩, .bool there, .int .i64 why] w fun e w' => e = .returned (.bool true) ∧ Kp (fun _ => False) w w' := by
  have HM := Lib.hid hm
  have HD := Lib.hid hD
  clear hm hD
  go_enter Tryd.func35, Tryd.ntmps35
  go_wp2_with fail
  refine (some_any w).mono ?_
  rintro e w1 ⟨b, rfl, hT, hk1⟩
  have HW := Lib.hid (Walk_any (some ⟨b, 0, none⟩) 7 someL s follow m w1 (hk1.cell HM.out id) hT (by decide) (by omega))
  rw [HD.out] at HW
  have HK1 := Lib.hid hk1
  clear hT hk1
  go_wp2_with fail
  refine HW.out.mono ?_
  rintro e w2 ⟨rfl, hk2⟩
  have HK2 := Lib.hid (HK1.out.trans hk2)
  clear hk2 HW HD
  go_wp2
  go_ret
  exact ⟨by simp, HK2.out⟩

set_option maxHeartbeats 8000000 in
set_option maxRecDepth 100000 in
theorem walkKnown_any (m : Int) (w : World) (hm : w.cell? ⟨0, 0, none⟩ = some (.int .i64 m)) :
    Calls Tryd.prog 7 #[] w fun e w' => e = .returned (.bool true) ∧ Kp (fun _ => False) w w' := by
  have HM := Lib.hid hm
  clear hm
  go_enter Tryd.func7, Tryd.ntmps7
  go_wp2_with fail
  refine (known15_any m w HM.out).mono ?_
  rintro e w0 ⟨rfl, hk0⟩
  have HK0 := Lib.hid hk0
  clear hk0
  go_wp2_with fail
  refine (leads_any [] false [] true 0 m w0 (HK0.out.cell HM.out id) (by decide) (by decide +kernel)).mono ?_
  rintro e w1 ⟨rfl, hk1⟩
  have HK1 := Lib.hid (HK0.out.trans hk1)
  clear hk1 HK0
  go_wp2_with fail
  refine (leads_any [47] true [] true 0 m w1 (HK1.out.cell HM.out id) (by decide) (by decide +kernel)).mono ?_
  rintro e w2 ⟨rfl, hk2⟩
  have HK2 := Lib.hid (HK1.out.trans hk2)
  clear hk2 HK1
  go_wp2_with fail
  refine (leads_any [46, 46] true [] true 0 m w2 (HK2.out.cell HM.out id) (by decide) (by decide +kernel)).mono ?_
  rintro e w3 ⟨rfl, hk3⟩
  have HK3 := Lib.hid (HK2.out.trans hk3)
  clear hk3 HK2
  go_wp2_with fail
  refine (leads_any [100, 47, 46, 46, 47, 108] false [108] true 0 m w3 (HK3.out.cell HM.out id) (by decide) (by decide +kernel)).mono ?_
  rintro e w4 ⟨rfl, hk4⟩
  have HK4 := Lib.hid (HK3.out.trans hk4)
  clear hk4 HK3
  go_wp2_with fail
  refine (leads_any [100, 47, 46, 46, 47, 108] true [100] true 0 m w4 (HK4.out.cell HM.out id) (by decide) (by decide +kernel)).mono ?_
  rintro e w5 ⟨rfl, hk5⟩
  have HK5 := Lib.hid (HK4.out.trans hk5)
  clear hk5 HK4
  go_wp2_with fail
  refine (leads_any [108, 47] false [108] true 0 m w5 (HK5.out.cell HM.out id) (by decide) (by decide +kernel)).mono ?_
  rintro e w6 ⟨rfl, hk6⟩
  have HK6 := Lib.hid (HK5.out.trans hk6)
  clear hk6 HK5
  go_wp2_with fail
  refine (leads_any [108, 47, 46] false [100] true 0 m w6 (HK6.out.cell HM.out id) (by decide) (by decide +kernel)).mono ?_
  rintro e w7 ⟨rfl, hk7⟩
  have HK7 := Lib.hid (HK6.out.trans hk7)
  clear hk7 HK6
  go_wp2_with fail
  refine (leads_any [108, 47, 117, 112, 47, 102] false [100, 47, 102] true 0 m w7 (HK7.out.cell HM.out id) (by decide) (by decide +kernel)).mono ?_
  rintro e w8 ⟨rfl, hk8⟩
  have HK8 := Lib.hid (HK7.out.trans hk8)
  clear hk8 HK7
  go_wp2_with fail
  refine (leads_any [108, 111, 111, 112] true [] false 11 m w8 (HK8.out.cell HM.out id) (by decide) (by decide +kernel)).mono ?_
  rintro e w9 ⟨rfl, hk9⟩
  have HK9 := Lib.hid (HK8.out.trans hk9)
  clear hk9 HK8
  go_wp2_with fail
  refine (leads_any [108, 111, 111, 112] false [108, 111, 111, 112] true 0 m w9 (HK9.out.cell HM.out id) (by decide) (by decide +kernel)).mono ?_
  rintro e w10 ⟨rfl, hk10⟩
  have HK10 := Lib.hid (HK9.out.trans hk10)
  clear hk10 HK9
  go_wp2_with fail
  refine (leads_any [114] true [100, 47, 102] true 0 m w10 (HK10.out.cell HM.out id) (by decide) (by decide +kernel)).mono ?_
  rintro e w11 ⟨rfl, hk11⟩
  have HK11 := Lib.hid (HK10.out.trans hk11)
  clear hk11 HK10
  go_wp2_with fail
  refine (leads_any [114, 47, 120] true [] false 9 m w11 (HK11.out.cell HM.out id) (by decide) (by decide +kernel)).mono ?_
  rintro e w12 ⟨rfl, hk12⟩
  have HK12 := Lib.hid (HK11.out.trans hk12)
  clear hk12 HK11
  go_wp2_with fail
  refine (leads_any [100, 47, 102, 47, 46, 46] false [100] true 0 m w12 (HK12.out.cell HM.out id) (by decide) (by decide +kernel)).mono ?_
  rintro e w13 ⟨rfl, hk13⟩
  have HK13 := Lib.hid (HK12.out.trans hk13)
  clear hk13 HK12
  go_wp2_with fail
  refine (leads_any [120, 47, 121] false [] false 6 m w13 (HK13.out.cell HM.out id) (by decide) (by decide +kernel)).mono ?_
  rintro e w14 ⟨rfl, hk14⟩
  have HK14 := Lib.hid (HK13.out.trans hk14)
  clear hk14 HK13
  go_wp2_with fail
  refine (leads_any [120, 47, 46] false [] false 6 m w14 (HK14.out.cell HM.out id) (by decide) (by decide +kernel)).mono ?_
  rintro e w15 ⟨rfl, hk15⟩
  have HK15 := Lib.hid (HK14.out.trans hk15)
  clear hk15 HK14
  go_wp2_with fail
  refine (leads_any [115] true [] false 6 m w15 (HK15.out.cell HM.out id) (by decide) (by decide +kernel)).mono ?_
  rintro e w16 ⟨rfl, hk16⟩
  have HK16 := Lib.hid (HK15.out.trans hk16)
  clear hk16 HK15
  go_wp2_with fail
  refine (leads_any [120] true [120] false 0 m w16 (HK16.out.cell HM.out id) (by decide) (by decide +kernel)).mono ?_
  rintro e w17 ⟨rfl, hk17⟩
  have HK17 := Lib.hid (HK16.out.trans hk17)
  clear hk17 HK16
  go_wp2_with fail
  refine (leads_any [97, 0] false [] false 1 m w17 (HK17.out.cell HM.out id) (by decide) (by decide +kernel)).mono ?_
  rintro e w18 ⟨rfl, hk18⟩
  have HK18 := Lib.hid (HK17.out.trans hk18)
  clear hk18 HK17
  go_wp2
  go_ret
  exact ⟨rfl, HK18.out⟩
end Go.Proofs.YtgpidbdgodgefaaDoor
