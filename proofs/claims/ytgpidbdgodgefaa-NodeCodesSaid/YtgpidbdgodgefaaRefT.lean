/- The contracts of the document's TakeNode and ReadNode. Conditions: as the theorems name them. -/
import Derived.Test.YtgpidbdgodgefaaRefN2
import Derived.Test.YtgpidbdgodgefaaRead
namespace Go.Proofs.Ytgpidbdgodgefaa
open Go.RowKit

theorem Taking.setN {T : TypeId} {w0 w : World} {q p : Nat} {row : Option Nat} {bs : List UInt8} {lack : Bool} (h : Taking T w0 w q p row bs lack) (np : Nat) (hnp : w0.heap.size ≤ np) (hq : q ≠ np) (i : Nat) (v : Value) :
    Taking T w0 (w.setCell ⟨np, i, none⟩ v) q p row bs lack :=
  ⟨h.rd.keep ((Kp.refl (fun k => k = np) w).setCell ⟨np, i, none⟩ (.inl rfl) v) (fun e => by have := h.hp; omega) (fun b hb e => by have := h.hrow b hb; omega), h.hp, h.hq, h.hrow, hp_set h.cell _ _ hq, h.kp.setCell ⟨np, i, none⟩ (.inr hnp) v⟩

set_option maxHeartbeats 2000000 in
set_option maxRecDepth 100000 in
theorem refTake_any (p : Nat) (row : Option Nat) (bs : List UInt8) (lack : Bool) (w : World) (hr : Rd 46 w p row bs lack) (hb : bs.length ≤ 140737488355328) :
    Calls Try.prog 59 #[.pointer (some ⟨p, 0, none⟩)] w (TakeEnd 46 w p bs lack) := by
  have hsf : ∀ (a : Addr) (b : Nat) (m : Mode) (w : World), (store a (.float .f64 b) m).run Try.prog w = stored Try.prog w a (.float .f64 b) m := fun a b m w => run_store _ w a _ m rfl
  have k0 : Kp (fun k => k = p) w (w.alloc (.cells #[.int .i64 0, .int .i64 0, .float .f64 0, .slice none 0 0] 57)) := (Kp.refl _ w).alloc _
  have HT1 : Hid (Taking 46 w (w.alloc (.cells #[.int .i64 0, .int .i64 0, .float .f64 0, .slice none 0 0] 57)) w.heap.size p row bs lack) :=
    ⟨hr.keep ((Kp.refl (fun _ => False) w).alloc _) id (fun _ _ => id), hr.lt, Nat.le_refl _, fun k e => (by obtain ⟨_, _, _, _, _, h⟩ := hr; exact (h k e).2), hp_new w _, k0⟩
  have HPW := Lib.hid (show p < w.heap.size from hr.lt)
  clear hr k0
  go_enter Try.func59, Try.ntmps59
  go_wp2_with fail
  generalize w.alloc (.cells #[.int .i64 0, .int .i64 0, .float .f64 0, .slice none 0 0] 57) = w1 at *
  obtain ⟨xs, hxs⟩ : ∃ xs, xs = (tk4 bs lack).1 := ⟨_, rfl⟩
  have HNODE : Hid (takeNode bs lack = ⟨(num (tk1 bs lack).1 : Nat), (num (tk2 bs lack).1 : Nat), num (tk3 bs lack).1, xs⟩) := by
    show _ = _
    rw [hxs]
    rfl
  obtain ⟨hb1, hb2, hb3⟩ := tk3_rest bs lack
  refine (rRdU8_any p row bs lack w1 HT1.out.rd hb).mono ?_
  rintro e w2 ⟨row2, he, hrd, hrow, hk⟩
  obtain rfl : e = .returned (.int .i64 (num (tk1 bs lack).1 : Nat)) := he
  have HT2 : Hid (Taking 46 w w2 w.heap.size p row2 (tk1 bs lack).2.1 (tk1 bs lack).2.2) := HT1.out.step hrd hrow hk
  clear hrd hrow hk HT1
  have HQ2 := Lib.hid (show w.heap.size < w2.heap.size from hp_lt HT2.out.cell)
  have HT3 := Lib.hid (HT2.out.keepF ((Kp.refl (fun _ => False) w2).alloc (.cells #[.int .i64 (num (tk1 bs lack).1 : Nat), .int .i64 0, .float .f64 0, .slice none 0 0] 57)))
  have HC3 := Lib.hid (hp_new w2 (.cells #[.int .i64 (num (tk1 bs lack).1 : Nat), .int .i64 0, .float .f64 0, .slice none 0 0] 57))
  clear HT2
  go_wp2_with fail
  generalize num (tk1 bs lack).1 = N1 at *
  generalize w2.alloc (.cells #[.int .i64 N1, .int .i64 0, .float .f64 0, .slice none 0 0] 57) = w3 at *
  generalize w2.heap.size = np at *
  refine (rRdU16_any p row2 _ _ w3 HT3.out.rd (by omega)).mono ?_
  rintro e w4 ⟨row4, he, hrd, hrow, hk⟩
  obtain rfl : e = .returned (.int .i64 (num (tk2 bs lack).1 : Nat)) := he
  have HT4 : Hid (Taking 46 w w4 w.heap.size p row4 (tk2 bs lack).2.1 (tk2 bs lack).2.2) := HT3.out.step hrd hrow hk
  have HC4 := Lib.hid (hk.hp HC3.out (fun e => by have := HQ2.out; have := HPW.out; omega))
  clear hrd hrow hk HT3 HC3
  generalize num (tk2 bs lack).1 = N2 at *
  have HT5 := Lib.hid (HT4.out.setN np (by have := HQ2.out; omega) (by have := HQ2.out; omega) 1 (.int .i64 N2))
  have HC5 := Lib.hid (set_f1 (v := .int .i64 N2) HC4.out)
  obtain ⟨⟨c0, c1, c2, c3⟩, ⟨t0, t1, t2, t3⟩, lt1⟩ := cell_fr HC4.out
  clear HT4 HC4
  go_wp2_with fail
  clear c0 c1 c2 c3 t0 t1 t2 t3 lt1
  generalize w4.setCell ⟨np, 1, none⟩ (.int .i64 N2) = w5 at *
  refine (rRdF64_any p row4 _ _ w5 HT5.out.rd (by omega)).mono ?_
  rintro e w6 ⟨row6, he, hrd, hrow, hk⟩
  obtain rfl : e = .returned (.float .f64 (num (tk3 bs lack).1)) := he
  have HT6 : Hid (Taking 46 w w6 w.heap.size p row6 (tk3 bs lack).2.1 (tk3 bs lack).2.2) := HT5.out.step hrd hrow hk
  have HC6 := Lib.hid (hk.hp HC5.out (fun e => by have := HQ2.out; have := HPW.out; omega))
  clear hrd hrow hk HT5 HC5
  have HTIME := Lib.hid (show num (tk3 bs lack).1 < 18446744073709551616 from takeNode_time bs lack)
  generalize num (tk3 bs lack).1 = N3 at *
  have HT7 := Lib.hid (HT6.out.setN np (by have := HQ2.out; omega) (by have := HQ2.out; omega) 2 (.float .f64 N3))
  have HC7 := Lib.hid (set_f2 (v := .float .f64 N3) HC6.out)
  obtain ⟨⟨c0, c1, c2, c3⟩, ⟨t0, t1, t2, t3⟩, lt1⟩ := cell_fr HC6.out
  clear HT6 HC6
  go_wp2_with fail
  clear c0 c1 c2 c3 t0 t1 t2 t3 lt1
  generalize w6.setCell ⟨np, 2, none⟩ (.float .f64 N3) = w7 at *
  refine (rRdText_any p row6 _ _ w7 HT7.out.rd (by omega)).mono ?_
  rintro e w8 ⟨v, row8, rfl, hown, hrd, hrow, hk⟩
  have HT8 : Hid (Taking 46 w w8 w.heap.size p row8 (tk4 bs lack).2.1 (tk4 bs lack).2.2) := HT7.out.step hrd hrow hk
  have HC8 := Lib.hid (hk.hp HC7.out (fun e => by have := HQ2.out; have := HPW.out; omega))
  have hown2 : w8.ownsRow w7.heap.size 5 1 v xs.length (xs.map byteV) := by rw [hxs]; exact hown
  obtain ⟨a, c, hs, _, hab⟩ := sl_of_owns hown2
  have he := hs.eq
  subst he
  have HAB := Lib.hid (show ∀ b, blk a = some b → np < b from fun b hb => by have h1 := (hab b hb).1; have h2 := hp_lt HC7.out; omega)
  have HMAX := Lib.hid (show xs.length ≤ 140737488355328 by rw [hxs]; exact Nat.le_trans (textTaken_len _ _) (by omega))
  have HT9 := Lib.hid (HT8.out.setN np (by have := HQ2.out; omega) (by have := HQ2.out; omega) 3 (.slice a xs.length c))
  have HC9 := Lib.hid (set_f3 (v := .slice a xs.length c) HC8.out)
  have HN9 : Hid (NAt (w8.setCell ⟨np, 3, none⟩ (.slice a xs.length c)) ⟨N1, N2, N3, xs⟩ a c) := ⟨hs.keep ((Kp.refl (fun k => k = np) w8).setCell ⟨np, 3, none⟩ (.inl rfl) _) (fun b hb e => by have := HAB.out b hb; omega), HTIME.out, HMAX.out⟩
  obtain ⟨⟨c0, c1, c2, c3⟩, ⟨t0, t1, t2, t3⟩, lt1⟩ := cell_fr HC8.out
  clear hrd hrow hk HT7 HC7 hs hown hown2 hab HTIME HMAX hb1 hb2 hb3 hb hxs HT8 HC8
  obtain ⟨ra, rc, hrc, _⟩ := HT9.out.rd
  obtain ⟨r0, r1, _⟩ := cell_two hrc
  obtain ⟨d0, d1, d2, d3⟩ := cell_four HC9.out
  obtain ⟨⟨e0, e1, e2, e3⟩, ⟨f0, f1, f2, f3⟩, lt4⟩ := cell_fr HT9.out.cell
  clear hrc
  cases hlk : (tk4 bs lack).2.2 with
  | true =>
    have HOK : Hid (takeOk bs lack = false) := by show _ = _; unfold takeOk; rw [hlk]; rfl
    have HLK := Lib.hid hlk
    rw [hlk] at r1
    go_wp2
    obtain ⟨hl4, hk4⟩ := node_laid HT9.out.cell ⟨0, 0, 0, []⟩ none 0 (fun k => k = p) w (.inr (Nat.le_refl _)) HT9.out.kp
    obtain ⟨_, hk5⟩ := node_laid HT9.out.cell ⟨0, 0, 0, []⟩ none 0 (fun b => b = w.heap.size) _ (.inl rfl) (Kp.refl _ _)
    obtain ⟨y0, y1, y2, y3⟩ := cell_four hl4
    dsimp only [List.length_nil] at y0 y1 y2 y3
    refine bodyPost_ret (v := .tuple #[.agg #[.int .i64 0, .int .i64 0, .float .f64 0, .slice none 0 0], .bool false]) (by simp [results, Try.results59, go_sem, y0, y1, y2, y3]) rfl ?_
    refine ⟨⟨row8, HLK.out ▸ HT9.out.rd.keep hk5 ?_ ?_⟩, hk4, .inr ⟨HOK.out, rfl⟩⟩
    · have := HT9.out.hp
      omega
    · intro b hb h
      have := HT9.out.hrow b hb
      omega
  | false =>
    have HLK := Lib.hid hlk
    rw [hlk] at r1
    go_wp2_with fail
    clear c0 c1 c2 c3 t0 t1 t2 t3 lt1 r0 r1 d0 d1 d2 d3 e0 e1 e2 e3 f0 f1 f2 f3 lt4
    generalize w8.setCell ⟨np, 3, none⟩ (.slice a xs.length c) = w9 at *
    refine (refRight_any ⟨N1, N2, N3, xs⟩ a c w9 HN9.out).mono ?_
    rintro e w10 ⟨rfl, hk10⟩
    have HTA := Lib.hid (HT9.out.keepF hk10)
    have HCA := Lib.hid (hk10.hp HC9.out id)
    have HNA := Lib.hid (HN9.out.keepF hk10)
    clear hk10 HT9 HC9 HN9
    obtain ⟨c0, c1, c2, c3⟩ := cell_four HCA.out
    obtain ⟨⟨s0, s1, s2, s3⟩, ⟨t0, t1, t2, t3⟩, lt4⟩ := cell_fr HTA.out.cell
    cases hr : rightN ⟨N1, N2, N3, xs⟩ with
    | true =>
      have HOK : Hid (takeOk bs lack = true) := by show _ = _; unfold takeOk; rw [HLK.out, HNODE.out, hr]; rfl
      clear hr hlk
      go_wp2
      obtain ⟨hl4, hk4⟩ := node_laid HTA.out.cell ⟨N1, N2, N3, xs⟩ a c (fun k => k = p) w (.inr (Nat.le_refl _)) HTA.out.kp
      obtain ⟨_, hk5⟩ := node_laid HTA.out.cell ⟨N1, N2, N3, xs⟩ a c (fun b => b = w.heap.size) _ (.inl rfl) (Kp.refl _ _)
      obtain ⟨y0, y1, y2, y3⟩ := cell_four hl4
      dsimp only at y0 y1 y2 y3
      refine bodyPost_ret (v := .tuple #[.agg #[.int .i64 N1, .int .i64 N2, .float .f64 N3, .slice a xs.length c], .bool true]) (by simp [results, Try.results59, go_sem, y0, y1, y2, y3]) rfl ?_
      refine ⟨⟨row8, HLK.out ▸ HTA.out.rd.keep hk5 ?_ ?_⟩, hk4, .inl ⟨HOK.out, a, c, by rw [HNODE.out]; rfl, by rw [HNODE.out]; exact HNA.out.keep hk5 (fun b hb h => by have := HAB.out b hb; have := HQ2.out; omega), fun b hb => by have := HAB.out b hb; have := HQ2.out; omega⟩⟩
      · have := HTA.out.hp
        omega
      · intro b hb h
        have := HTA.out.hrow b hb
        omega
    | false =>
      have HOK : Hid (takeOk bs lack = false) := by show _ = _; unfold takeOk; rw [HLK.out, HNODE.out, hr]; rfl
      clear hr hlk
      go_wp2
      obtain ⟨hl4, hk4⟩ := node_laid HTA.out.cell ⟨0, 0, 0, []⟩ none 0 (fun k => k = p) w (.inr (Nat.le_refl _)) HTA.out.kp
      obtain ⟨_, hk5⟩ := node_laid HTA.out.cell ⟨0, 0, 0, []⟩ none 0 (fun b => b = w.heap.size) _ (.inl rfl) (Kp.refl _ _)
      obtain ⟨y0, y1, y2, y3⟩ := cell_four hl4
      dsimp only [List.length_nil] at y0 y1 y2 y3
      refine bodyPost_ret (v := .tuple #[.agg #[.int .i64 0, .int .i64 0, .float .f64 0, .slice none 0 0], .bool false]) (by simp [results, Try.results59, go_sem, y0, y1, y2, y3]) rfl ?_
      refine ⟨⟨row8, HLK.out ▸ HTA.out.rd.keep hk5 ?_ ?_⟩, hk4, .inr ⟨HOK.out, rfl⟩⟩
      · have := HTA.out.hp
        omega
      · intro b hb h
        have := HTA.out.hrow b hb
        omega
end Go.Proofs.Ytgpidbdgodgefaa
