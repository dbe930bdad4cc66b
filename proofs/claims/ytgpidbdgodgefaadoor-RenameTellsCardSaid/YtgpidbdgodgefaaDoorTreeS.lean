/- The contract of the document's set: an item in its place. Conditions: as the theorem names them. -/
import Derived.Test.YtgpidbdgodgefaaDoorTreeMG
namespace Go.Proofs.YtgpidbdgodgefaaDoor
open Go.RowKit Go.Deep

theorem less_bytes : ∀ (x y : List UInt8), Op.bytesLess x y = decide (x < y)
  | [], [] => by simp [Op.bytesLess]
  | _ :: _, [] => by simp [Op.bytesLess]
  | [], _ :: _ => by simp [Op.bytesLess]
  | a :: x, b :: y => by
    rw [Op.bytesLess, less_bytes x y]
    simp only [List.cons_lt_cons_iff]
    by_cases h1 : a < b <;> by_cases h2 : a = b <;> by_cases h3 : x < y <;> simp [h1, h2, h3]
theorem OwnT.from_ {w : World} {base base' : Nat} {v : Value} {l : List ItemP} (h : OwnT w base v l) (hb : base' ≤ base) : OwnT w base' v l := ⟨owns_from h.own hb, h.ok, h.sep⟩

set_option maxHeartbeats 8000000 in
set_option maxRecDepth 100000 in
theorem refSet_any (a : Option Addr) (c : Nat) (l : List ItemV) (s : List UInt8) (n : NodeV) (na : Option Addr) (nc : Nat) (w : World) (h : TreeAt w a l) (hl : l.length ≤ 1000) (hn : NAt w n na nc) :
    Calls Tryd.prog 67 #[.slice a l.length c, .string ⟨s.toArray⟩, nodeVal n na nc] w (TreeEnd w (setL (n.item s) false l)) := by
  have HT := Lib.hid h
  have hb0 := hp_new w (.cells #[.int .i64 n.kind, .int .i64 n.mode, .float .f64 n.time, .slice na n.bs.length nc] 42)
  have HB0 := Lib.hid hb0
  have hk0 : Kp (fun _ => False) w (w.alloc (.cells #[.int .i64 n.kind, .int .i64 n.mode, .float .f64 n.time, .slice na n.bs.length nc] 42)) := (Kp.refl _ w).alloc _
  have HK0 := Lib.hid hk0
  have HX0 := Lib.hid (show ItemP.Ok (w.alloc (.cells #[.int .i64 n.kind, .int .i64 n.mode, .float .f64 n.time, .slice na n.bs.length nc] 42)) ⟨n.item s, na, nc⟩ from ⟨hn.sl.keep hk0 (fun _ _ => id), hn.time, hn.len⟩)
  have HXLt := Lib.hid (show 0 < n.bs.length → ∀ b, blk na = some b → b < w.heap.size from fun hp b hb => hn.sl.blk_in hp hb)
  clear h hn hb0 hk0
  rw [nodeVal]
  go_enter Tryd.func67, Tryd.ntmps67
  go_wp2_with fail
  generalize w.alloc (.cells #[.int .i64 n.kind, .int .i64 n.mode, .float .f64 n.time, .slice na n.bs.length nc] 42) = w0 at *
  go_loopw [7, 8, 9] (fun u d v wr => ∃ (i : Nat) (dn : Bool) (L : List ItemP), v = .int .i64 i ∧ d = .bool dn ∧ i ≤ l.length ∧ Hid (L.map (·.x) ++ setL (n.item s) dn (l.drop i) = setL (n.item s) false l) ∧ Hid (L.length ≤ 2 * i) ∧ Hid (OwnT wr (w.heap.size + 1) u L) ∧ Hid (wr.heap[w.heap.size]? = some (.cells #[.int .i64 n.kind, .int .i64 n.mode, .float .f64 n.time, .slice na n.bs.length nc] 42 (0, 0))) ∧ Hid (ItemP.Ok wr ⟨n.item s, na, nc⟩) ∧ Hid (Kp (fun _ => False) w wr)) (fun _ _ v _ => l.length - (intOf v).toNat)
  case atStart => exact ⟨0, false, [], rfl, rfl, Nat.zero_le _, Lib.hid rfl, Lib.hid (Nat.zero_le _), Lib.hid (OwnT.nil _ _), HB0, HX0, HK0⟩
  case round =>
    obtain ⟨i, dn, L, rfl, rfl, hil, HL, HLL, HO, HB, HXOk, HK⟩ := hrel
    clear HB0 HX0 HK0
    obtain ⟨b0, b1, b2, b3⟩ := cell_four HB.out
    have hdl := HLL.out
    by_cases hlt : i < l.length
    · obtain ⟨b, off, ad, cp, rfl, hx0⟩ := HT.out i hlt
      have hx := hx0.keep HK.out
      obtain ⟨d0, d1, d2, d3, d4, _, _, _⟩ := hx
      have HYOk := Lib.hid (show ItemP.Ok wr ⟨l[i], ad, cp⟩ from ⟨(hx0.keep HK.out).sl, hx0.time, hx0.len⟩)
      have HYLt := Lib.hid (show 0 < l[i].bs.length → ∀ b, blk ad = some b → b < w.heap.size from fun hpos b hb => hx0.sl.blk_in hpos hb)
      have HS := Lib.hid (show L.map (·.x) ++ ((if dn = false ∧ ¬ l[i].path < s then [n.item s] else []) ++ ((if l[i].path ≠ s then [l[i]] else []) ++ setL (n.item s) (dn || !decide (l[i].path < s)) (l.drop (i + 1)))) = setL (n.item s) false l from by
        have h5 := HL.out
        rw [List.drop_eq_getElem_cons hlt, setL] at h5
        exact h5)
      have HX0 := Lib.hid hx0
      clear hx0 HL
      by_cases hp : l[i].path = s
      · have hb : (l[i].path == s) = true := by simpa using hp
        have hnl : ¬ l[i].path < s := by rw [hp]; exact lt_irr s
        have hle : Op.bytesLess l[i].path s = false := by rw [less_bytes]; simpa using hnl
        have hle2 : Op.bytesLess s s = false := by rw [less_bytes]; simp
        cases dn with
        | true =>
          have HS2 := Lib.hid (show L.map (·.x) ++ setL (n.item s) true (l.drop (i + 1)) = setL (n.item s) false l from by simpa [hp] using HS.out)
          clear HS
          go_wp2
          exact ⟨⟨i + 1, true, L, by go_num, rfl, by omega, HS2, Lib.hid (by have := HLL.out; omega), HO, HB, HXOk, HK⟩, by simp only [intOf]; omega⟩
        | false =>
          have HS2 := Lib.hid (show L.map (·.x) ++ ([n.item s] ++ setL (n.item s) true (l.drop (i + 1))) = setL (n.item s) false l from by simpa [hp, hnl, lt_irr s] using HS.out)
          clear HS
          have ka : Kp (fun _ => False) wr (wr.alloc (.cells #[.string ⟨s.toArray⟩, .int .i64 n.kind, .int .i64 n.mode, .float .f64 n.time, .slice na n.bs.length nc] 44)) := (Kp.refl _ wr).alloc _
          have HOA := Lib.hid (HO.out.keep ka)
          have HYA := Lib.hid (HXOk.out.keep ka)
          have HGA := Lib.hid (hp_new wr (.cells #[.string ⟨s.toArray⟩, .int .i64 n.kind, .int .i64 n.mode, .float .f64 n.time, .slice na n.bs.length nc] 44))
          have HBA := Lib.hid (hp_old HB.out (.cells #[.string ⟨s.toArray⟩, .int .i64 n.kind, .int .i64 n.mode, .float .f64 n.time, .slice na n.bs.length nc] 44))
          have HKA := Lib.hid (HK.out.trans ka)
          have HXOkA := Lib.hid (HXOk.out.keep ka)
          have HSP := Lib.hid (show 0 < (ItemP.mk (n.item s) na nc).x.bs.length → ∀ b, blk (ItemP.mk (n.item s) na nc).ad = some b → u7.ownBlock ≠ some b from fun hp b hb e => by have h1 := (HO.out.lt b e).1; have h2 := HXLt.out hp b hb; omega)
          clear ka HO HK HB HXOk
          go_wp2_with (at_builtin; refine wpList_append_item rfl (w.heap.size + 1) (.tmp 27) (.tmp 31) rfl u7 L rfl HOA.out (by have := hp_lt HBA.out; omega) (ItemP.mk (n.item s) na nc) HYA.out HSP.out wr.heap.size rfl 44 (0, 0) HGA.out (by have := HLL.out; omega) ?_)
          intro v1 w1 hown hk
          have HO1 := Lib.hid hown
          have HK1 := Lib.hid (HKA.out.step hk (fun k hk h => by have := (HOA.out.lt k h).1; omega))
          have HB1 := Lib.hid (hk.hp HBA.out (fun h => by have := (HOA.out.lt _ h).1; omega))
          have HXOk1 := Lib.hid (show _ from ⟨HXOkA.out.1.keepE hk (fun hp b hb h => by have h1 := (HOA.out.lt _ h).1; have h2 := HXLt.out hp b hb; omega), HXOkA.out.2⟩ : ItemP.Ok w1 (ItemP.mk (n.item s) na nc))
          clear hown hk HOA HYA HGA HBA HKA HSP HXOkA
          obtain ⟨d0, d1, d2, d3, d4, _, _, _⟩ := HX0.out.keep HK1.out
          go_wp2
          exact ⟨⟨i + 1, true, L ++ [⟨n.item s, na, nc⟩], by go_num, rfl, by omega, Lib.hid (by rw [List.map_append, List.append_assoc]; exact HS2.out), Lib.hid (by have := HLL.out; simp only [List.length_append, List.length_singleton]; omega), HO1, HB1, HXOk1, HK1⟩, by simp only [intOf]; omega⟩
      · have hb : (l[i].path == s) = false := by simpa using hp
        cases dn with
        | true =>
          have HS2 := Lib.hid (show L.map (·.x) ++ ([l[i]] ++ setL (n.item s) true (l.drop (i + 1))) = setL (n.item s) false l from by simpa [hp] using HS.out)
          clear HS
          have ka : Kp (fun _ => False) wr (wr.alloc (.cells #[.string ⟨l[i].path.toArray⟩, .int .i64 l[i].kind, .int .i64 l[i].mode, .float .f64 l[i].time, .slice ad l[i].bs.length cp] 44)) := (Kp.refl _ wr).alloc _
          have HOA := Lib.hid (HO.out.keep ka)
          have HYA := Lib.hid (HYOk.out.keep ka)
          have HGA := Lib.hid (hp_new wr (.cells #[.string ⟨l[i].path.toArray⟩, .int .i64 l[i].kind, .int .i64 l[i].mode, .float .f64 l[i].time, .slice ad l[i].bs.length cp] 44))
          have HBA := Lib.hid (hp_old HB.out (.cells #[.string ⟨l[i].path.toArray⟩, .int .i64 l[i].kind, .int .i64 l[i].mode, .float .f64 l[i].time, .slice ad l[i].bs.length cp] 44))
          have HKA := Lib.hid (HK.out.trans ka)
          have HXOkA := Lib.hid (HXOk.out.keep ka)
          have HSP := Lib.hid (show 0 < (ItemP.mk l[i] ad cp).x.bs.length → ∀ b, blk (ItemP.mk l[i] ad cp).ad = some b → u7.ownBlock ≠ some b from fun hp b hb e => by have h1 := (HO.out.lt b e).1; have h2 := HYLt.out hp b hb; omega)
          clear ka HO HK HB HXOk HYOk
          go_wp2_with (at_builtin; refine wpList_append_item rfl (w.heap.size + 1) (.tmp 40) (.tmp 45) rfl u7 L rfl HOA.out (by have := hp_lt HBA.out; omega) (ItemP.mk l[i] ad cp) HYA.out HSP.out wr.heap.size rfl 44 (0, 0) HGA.out (by have := HLL.out; omega) ?_)
          intro v1 w1 hown hk
          have HO1 := Lib.hid hown
          have HK1 := Lib.hid (HKA.out.step hk (fun k hk h => by have := (HOA.out.lt k h).1; omega))
          have HB1 := Lib.hid (hk.hp HBA.out (fun h => by have := (HOA.out.lt _ h).1; omega))
          have HXOk1 := Lib.hid (show _ from ⟨HXOkA.out.1.keepE hk (fun hp b hb h => by have h1 := (HOA.out.lt _ h).1; have h2 := HXLt.out hp b hb; omega), HXOkA.out.2⟩ : ItemP.Ok w1 (ItemP.mk (n.item s) na nc))
          clear hown hk HOA HYA HGA HBA HKA HSP HXOkA
          go_wp2
          exact ⟨⟨i + 1, true, L ++ [⟨l[i], ad, cp⟩], by go_num, rfl, by omega, Lib.hid (by rw [List.map_append, List.append_assoc]; exact HS2.out), Lib.hid (by have := HLL.out; simp only [List.length_append, List.length_singleton]; omega), HO1, HB1, HXOk1, HK1⟩, by simp only [intOf]; omega⟩
        | false =>
          by_cases hlp : l[i].path < s
          · have hle : Op.bytesLess l[i].path s = true := by rw [less_bytes]; simpa using hlp
            have HS2 := Lib.hid (show L.map (·.x) ++ ([l[i]] ++ setL (n.item s) false (l.drop (i + 1))) = setL (n.item s) false l from by simpa [hp, hlp] using HS.out)
            clear HS
            have ka : Kp (fun _ => False) wr (wr.alloc (.cells #[.string ⟨l[i].path.toArray⟩, .int .i64 l[i].kind, .int .i64 l[i].mode, .float .f64 l[i].time, .slice ad l[i].bs.length cp] 44)) := (Kp.refl _ wr).alloc _
            have HOA := Lib.hid (HO.out.keep ka)
            have HYA := Lib.hid (HYOk.out.keep ka)
            have HGA := Lib.hid (hp_new wr (.cells #[.string ⟨l[i].path.toArray⟩, .int .i64 l[i].kind, .int .i64 l[i].mode, .float .f64 l[i].time, .slice ad l[i].bs.length cp] 44))
            have HBA := Lib.hid (hp_old HB.out (.cells #[.string ⟨l[i].path.toArray⟩, .int .i64 l[i].kind, .int .i64 l[i].mode, .float .f64 l[i].time, .slice ad l[i].bs.length cp] 44))
            have HKA := Lib.hid (HK.out.trans ka)
            have HXOkA := Lib.hid (HXOk.out.keep ka)
            have HSP := Lib.hid (show 0 < (ItemP.mk l[i] ad cp).x.bs.length → ∀ b, blk (ItemP.mk l[i] ad cp).ad = some b → u7.ownBlock ≠ some b from fun hp b hb e => by have h1 := (HO.out.lt b e).1; have h2 := HYLt.out hp b hb; omega)
            clear ka HO HK HB HXOk HYOk
            go_wp2_with (at_builtin; refine wpList_append_item rfl (w.heap.size + 1) (.tmp 40) (.tmp 45) rfl u7 L rfl HOA.out (by have := hp_lt HBA.out; omega) (ItemP.mk l[i] ad cp) HYA.out HSP.out wr.heap.size rfl 44 (0, 0) HGA.out (by have := HLL.out; omega) ?_)
            intro v1 w1 hown hk
            have HO1 := Lib.hid hown
            have HK1 := Lib.hid (HKA.out.step hk (fun k hk h => by have := (HOA.out.lt k h).1; omega))
            have HB1 := Lib.hid (hk.hp HBA.out (fun h => by have := (HOA.out.lt _ h).1; omega))
            have HXOk1 := Lib.hid (show _ from ⟨HXOkA.out.1.keepE hk (fun hp b hb h => by have h1 := (HOA.out.lt _ h).1; have h2 := HXLt.out hp b hb; omega), HXOkA.out.2⟩ : ItemP.Ok w1 (ItemP.mk (n.item s) na nc))
            clear hown hk HOA HYA HGA HBA HKA HSP HXOkA
            go_wp2
            exact ⟨⟨i + 1, false, L ++ [⟨l[i], ad, cp⟩], by go_num, rfl, by omega, Lib.hid (by rw [List.map_append, List.append_assoc]; exact HS2.out), Lib.hid (by have := HLL.out; simp only [List.length_append, List.length_singleton]; omega), HO1, HB1, HXOk1, HK1⟩, by simp only [intOf]; omega⟩
          · have hle : Op.bytesLess l[i].path s = false := by rw [less_bytes]; simpa using hlp
            have HS2 := Lib.hid (show L.map (·.x) ++ ([n.item s] ++ ([l[i]] ++ setL (n.item s) true (l.drop (i + 1)))) = setL (n.item s) false l from by simpa [hp, hlp] using HS.out)
            clear HS
            have ka : Kp (fun _ => False) wr (wr.alloc (.cells #[.string ⟨s.toArray⟩, .int .i64 n.kind, .int .i64 n.mode, .float .f64 n.time, .slice na n.bs.length nc] 44)) := (Kp.refl _ wr).alloc _
            have HOA := Lib.hid (HO.out.keep ka)
            have HYA := Lib.hid (HXOk.out.keep ka)
            have HGA := Lib.hid (hp_new wr (.cells #[.string ⟨s.toArray⟩, .int .i64 n.kind, .int .i64 n.mode, .float .f64 n.time, .slice na n.bs.length nc] 44))
            have HBA := Lib.hid (hp_old HB.out (.cells #[.string ⟨s.toArray⟩, .int .i64 n.kind, .int .i64 n.mode, .float .f64 n.time, .slice na n.bs.length nc] 44))
            have HKA := Lib.hid (HK.out.trans ka)
            have HXOkA := Lib.hid (HXOk.out.keep ka)
            have HYOkA := Lib.hid (HYOk.out.keep ka)
            have HSP := Lib.hid (show 0 < (ItemP.mk (n.item s) na nc).x.bs.length → ∀ b, blk (ItemP.mk (n.item s) na nc).ad = some b → u7.ownBlock ≠ some b from fun hp b hb e => by have h1 := (HO.out.lt b e).1; have h2 := HXLt.out hp b hb; omega)
            clear ka HO HK HB HXOk HYOk
            go_wp2_with (at_builtin; refine wpList_append_item rfl (w.heap.size + 1) (.tmp 27) (.tmp 31) rfl u7 L rfl HOA.out (by have := hp_lt HBA.out; omega) (ItemP.mk (n.item s) na nc) HYA.out HSP.out wr.heap.size rfl 44 (0, 0) HGA.out (by have := HLL.out; omega) ?_)
            intro v1 w1 hown hk
            have HO1 := Lib.hid hown
            have HK1 := Lib.hid (HKA.out.step hk (fun k hk h => by have := (HOA.out.lt k h).1; omega))
            have HB1 := Lib.hid (hk.hp HBA.out (fun h => by have := (HOA.out.lt _ h).1; omega))
            have HXOk1 := Lib.hid (show _ from ⟨HXOkA.out.1.keepE hk (fun hp b hb h => by have h1 := (HOA.out.lt _ h).1; have h2 := HXLt.out hp b hb; omega), HXOkA.out.2⟩ : ItemP.Ok w1 (ItemP.mk (n.item s) na nc))
            have HYOk1 := Lib.hid (show _ from ⟨HYOkA.out.1.keepE hk (fun hp b hb h => by have h1 := (HOA.out.lt _ h).1; have h2 := HYLt.out hp b hb; omega), HYOkA.out.2⟩ : ItemP.Ok w1 (ItemP.mk l[i] ad cp))
            clear hown hk HOA HYA HGA HBA HKA HSP HXOkA HYOkA
            obtain ⟨d0, d1, d2, d3, d4, _, _, _⟩ := HX0.out.keep HK1.out
            have HLL1 := Lib.hid (show (L ++ [ItemP.mk (n.item s) na nc]).length ≤ 2 * i + 1 from by have := HLL.out; simp only [List.length_append, List.length_singleton]; omega)
            have ka : Kp (fun _ => False) w1 (w1.alloc (.cells #[.string ⟨l[i].path.toArray⟩, .int .i64 l[i].kind, .int .i64 l[i].mode, .float .f64 l[i].time, .slice ad l[i].bs.length cp] 44)) := (Kp.refl _ w1).alloc _
            have HOA := Lib.hid (HO1.out.keep ka)
            have HYA := Lib.hid (HYOk1.out.keep ka)
            have HXOkA := Lib.hid (HXOk1.out.keep ka)
            have HGA := Lib.hid (hp_new w1 (.cells #[.string ⟨l[i].path.toArray⟩, .int .i64 l[i].kind, .int .i64 l[i].mode, .float .f64 l[i].time, .slice ad l[i].bs.length cp] 44))
            have HBA := Lib.hid (hp_old HB1.out (.cells #[.string ⟨l[i].path.toArray⟩, .int .i64 l[i].kind, .int .i64 l[i].mode, .float .f64 l[i].time, .slice ad l[i].bs.length cp] 44))
            have HKA := Lib.hid (HK1.out.trans ka)
            have HSP := Lib.hid (show 0 < (ItemP.mk l[i] ad cp).x.bs.length → ∀ b, blk (ItemP.mk l[i] ad cp).ad = some b → v1.ownBlock ≠ some b from fun hp b hb e => by have h1 := (HO1.out.lt b e).1; have h2 := HYLt.out hp b hb; omega)
            clear ka HO1 HK1 HB1 HYOk1
            go_wp2_with (at_builtin; refine wpList_append_item rfl (w.heap.size + 1) (.tmp 40) (.tmp 45) rfl v1 (L ++ [⟨n.item s, na, nc⟩]) rfl HOA.out (by have := hp_lt HBA.out; omega) (ItemP.mk l[i] ad cp) HYA.out HSP.out w1.heap.size rfl 44 (0, 0) HGA.out (by have := HLL1.out; omega) ?_)
            intro v2 w2 hown hk
            have HO2 := Lib.hid hown
            have HK2 := Lib.hid (HKA.out.step hk (fun k hk h => by have := (HOA.out.lt k h).1; omega))
            have HB2 := Lib.hid (hk.hp HBA.out (fun h => by have := (HOA.out.lt _ h).1; omega))
            have HXOk2 := Lib.hid (show ItemP.Ok w2 ⟨n.item s, na, nc⟩ from ⟨HXOkA.out.1.keepE hk (fun hp b hb h => by have h1 := (HOA.out.lt _ h).1; have h2 := HXLt.out hp b hb; omega), HXOkA.out.2⟩)
            clear hown hk HOA HYA HGA HBA HKA HSP
            go_wp2
            exact ⟨⟨i + 1, true, L ++ [⟨n.item s, na, nc⟩, ⟨l[i], ad, cp⟩], by go_num, rfl, by omega, Lib.hid (by rw [List.map_append, List.append_assoc]; exact HS2.out), Lib.hid (by have := HLL.out; simp only [List.length_append, List.length_cons, List.length_nil]; omega), HO2, HB2, HXOk2, HK2⟩, by simp only [intOf]; omega⟩
    · have hd : l.drop i = [] := List.drop_eq_nil_of_le (by omega)
      have HR := Lib.hid (show L.map (·.x) ++ setL (n.item s) dn [] = setL (n.item s) false l from by have h5 := HL.out; rwa [hd] at h5)
      clear HL
      cases dn with
      | true =>
        go_wp2
        go_ret
        exact ⟨u7, L, rfl, by have := HR.out; simpa [setL] using this, HO.out.from_ (Nat.le_succ _), HK.out⟩
      | false =>
        have ka : Kp (fun _ => False) wr (wr.alloc (.cells #[.string ⟨s.toArray⟩, .int .i64 n.kind, .int .i64 n.mode, .float .f64 n.time, .slice na n.bs.length nc] 44)) := (Kp.refl _ wr).alloc _
        have HOA := Lib.hid (HO.out.keep ka)
        have HYA := Lib.hid (HXOk.out.keep ka)
        have HGA := Lib.hid (hp_new wr (.cells #[.string ⟨s.toArray⟩, .int .i64 n.kind, .int .i64 n.mode, .float .f64 n.time, .slice na n.bs.length nc] 44))
        have HBA := Lib.hid (hp_old HB.out (.cells #[.string ⟨s.toArray⟩, .int .i64 n.kind, .int .i64 n.mode, .float .f64 n.time, .slice na n.bs.length nc] 44))
        have HKA := Lib.hid (HK.out.trans ka)
        have HSP := Lib.hid (show 0 < (ItemP.mk (n.item s) na nc).x.bs.length → ∀ b, blk (ItemP.mk (n.item s) na nc).ad = some b → u7.ownBlock ≠ some b from fun hp b hb e => by have h1 := (HO.out.lt b e).1; have h2 := HXLt.out hp b hb; omega)
        clear ka HO HK HB HXOk
        go_wp2_with (at_builtin; refine wpList_append_item rfl (w.heap.size + 1) (.tmp 49) (.tmp 53) rfl u7 L rfl HOA.out (by have := hp_lt HBA.out; omega) (ItemP.mk (n.item s) na nc) HYA.out HSP.out wr.heap.size rfl 44 (0, 0) HGA.out (by have := HLL.out; omega) ?_)
        intro v1 w1 hown hk
        have HO1 := Lib.hid hown
        have HK1 := Lib.hid (HKA.out.step hk (fun k hk h => by have := (HOA.out.lt k h).1; omega))
        have HB1 := Lib.hid (hk.hp HBA.out (fun h => by have := (HOA.out.lt _ h).1; omega))
        clear hown hk HOA HYA HGA HBA HKA HSP
        go_wp2
        go_ret
        exact ⟨v1, L ++ [⟨n.item s, na, nc⟩], rfl, by have := HR.out; simpa [setL] using this, HO1.out.from_ (Nat.le_succ _), HK1.out⟩
end Go.Proofs.YtgpidbdgodgefaaDoor
