/- The contract of the document's ReadNode. Conditions: as the theorems name them. -/
import Derived.Test.YtgpidbdgodgefaaRefT
namespace Go.Proofs.Ytgpidbdgodgefaa
open Go.RowKit

set_option maxHeartbeats 2000000 in
set_option maxRecDepth 100000 in
theorem refRead_any (a : Option Addr) (c : Nat) (bs : List UInt8) (w : World) (hs : Sl w (.slice a bs.length c) a c bs) (hb : bs.length ≤ 140737488355328) (hab : ∀ b, blk a = some b → b < w.heap.size) :
    Calls Try.prog 57 #[.slice a bs.length c] w (ReadEnd w bs) := by
  have hsf : ∀ (a : Addr) (b : Nat) (m : Mode) (w : World), (store a (.float .f64 b) m).run Try.prog w = stored Try.prog w a (.float .f64 b) m := fun a b m w => run_store _ w a _ m rfl
  have k0 : Kp (fun _ => False) w ((w.alloc (.cells #[.int .i64 0, .int .i64 0, .float .f64 0, .slice none 0 0] 57)).alloc (.cells #[.slice a bs.length c, .bool false] 46)) := ((Kp.refl _ w).alloc _).alloc _
  have HK2 := Lib.hid k0
  have HC2 := Lib.hid (hp_old (hp_new w (.cells #[.int .i64 0, .int .i64 0, .float .f64 0, .slice none 0 0] 57)) (.cells #[.slice a bs.length c, .bool false] 46))
  have HRD : Hid (Rd 46 ((w.alloc (.cells #[.int .i64 0, .int .i64 0, .float .f64 0, .slice none 0 0] 57)).alloc (.cells #[.slice a bs.length c, .bool false] 46)) (w.heap.size + 1) (blk a) bs false) := ⟨a, c, hp_new' _ _ (by simp), hs.keep k0 (fun _ _ => id), rfl, fun b hb => by have := hab b hb; simp; omega⟩
  have HP := Lib.hid (show w.heap.size < w.heap.size + 1 by omega)
  clear hs k0 hab
  go_enter Try.func57, Try.ntmps57
  go_wp2_with fail
  generalize ((w.alloc (.cells #[.int .i64 0, .int .i64 0, .float .f64 0, .slice none 0 0] 57)).alloc (.cells #[.slice a bs.length c, .bool false] 46)) = w2 at *
  generalize w.heap.size + 1 = p at *
  refine (refTake_any p (blk a) bs false w2 HRD.out hb).mono ?_
  rintro e w3 ⟨⟨row3, hrd3⟩, hk3, hor⟩
  have HK3 := Lib.hid (HK2.out.step hk3 (fun i hi e => by have := HP.out; omega))
  have HC3 := Lib.hid (hk3.hp HC2.out (fun e => by have := HP.out; omega))
  have HRD3 := Lib.hid hrd3
  clear hrd3
  rcases hor with ⟨hok, a3, c3, rfl, hn3, hab⟩ | ⟨hok, rfl⟩
  · have HOK := Lib.hid hok
    have HN3 := Lib.hid hn3
    have HAB := Lib.hid (show ∀ b, blk a3 = some b → w.heap.size < b from fun b hb => by have h1 := hab b hb; have h2 := hp_lt HC2.out; omega)
    have HREAD := Lib.hid (show readN bs = if (tk4 bs false).2.1 = [] then some (takeNode bs false) else none by unfold readN; rw [hok]; simp)
    clear hok hn3 hab hk3 HC2 HK2 HRD
    generalize takeNode bs false = n at *
    obtain ⟨k, m, t, xs⟩ := n
    unfold nodeVal
    dsimp only
    have kF := (Kp.refl (fun _ => False) w3).alloc (.cells #[.int .i64 k, .int .i64 m, .float .f64 t, .slice a3 xs.length c3] 57)
    have HRD4 := Lib.hid (HRD3.out.keep kF id (fun _ _ => id))
    have HC4 := Lib.hid (kF.hp HC3.out id)
    have HN4 := Lib.hid (HN3.out.keepF kF)
    have HK4 := Lib.hid (HK3.out.trans kF)
    have HB4 := Lib.hid (hp_new w3 (.cells #[.int .i64 k, .int .i64 m, .float .f64 t, .slice a3 xs.length c3] 57))
    obtain ⟨ra, rc, hrc, _⟩ := HRD4.out
    obtain ⟨r0, r1, _⟩ := cell_two hrc
    clear kF HRD3 HC3 HN3 HK3 hrc HRD4
    obtain ⟨c0, c1, c2, c3'⟩ := cell_four HB4.out
    obtain ⟨⟨s0, s1, s2, s3⟩, ⟨t0, t1, t2, t3⟩, lt4⟩ := cell_fr HC4.out
    generalize (tk4 bs false).2.1 = rest at *
    generalize (tk4 bs false).2.2 = lk4 at *
    cases rest with
    | nil =>
      go_wp2
      obtain ⟨hl4, hk4⟩ := node_laid HC4.out ⟨k, m, t, xs⟩ a3 c3 (fun _ => False) w (.inr (Nat.le_refl _)) HK4.out
      obtain ⟨_, hk5⟩ := node_laid HC4.out ⟨k, m, t, xs⟩ a3 c3 (fun b => b = w.heap.size) _ (.inl rfl) (Kp.refl _ _)
      obtain ⟨y0, y1, y2, y3⟩ := cell_four hl4
      dsimp only at y0 y1 y2 y3
      refine bodyPost_ret (v := .tuple #[.agg #[.int .i64 k, .int .i64 m, .float .f64 t, .slice a3 xs.length c3], .int .i64 0]) (by simp [results, Try.results57, go_sem, y0, y1, y2, y3]) rfl ?_
      exact ⟨hk4, .inl ⟨⟨k, m, t, xs⟩, a3, c3, by rw [HREAD.out]; simp, rfl, HN4.out.keep hk5 (fun b hb h => by have := HAB.out b hb; omega), fun b hb => Nat.le_of_lt (HAB.out b hb)⟩⟩
    | cons x rest =>
      have hpos : ¬ ((x :: rest).length : Int) ≤ 0 := by simp
      go_wp2
      obtain ⟨hl4, hk4⟩ := node_laid HC4.out ⟨0, 0, 0, []⟩ none 0 (fun _ => False) w (.inr (Nat.le_refl _)) HK4.out
      obtain ⟨y0, y1, y2, y3⟩ := cell_four hl4
      dsimp only [List.length_nil] at y0 y1 y2 y3
      refine bodyPost_ret (v := .tuple #[.agg #[.int .i64 0, .int .i64 0, .float .f64 0, .slice none 0 0], .int .i64 2]) (by simp [results, Try.results57, go_sem, y0, y1, y2, y3]) rfl ?_
      exact ⟨hk4, .inr ⟨by rw [HREAD.out]; simp, rfl⟩⟩
  · have HREAD : Hid (readN bs = none) := by show _ = _; unfold readN; rw [hok]; simp
    clear hok hk3 HC2 HK2 HRD HRD3
    unfold nodeVal
    dsimp only [List.length_nil]
    have kF := (Kp.refl (fun _ => False) w3).alloc (.cells #[.int .i64 0, .int .i64 0, .float .f64 0, .slice none 0 0] 57)
    have HC4 := Lib.hid (kF.hp HC3.out id)
    have HK4 := Lib.hid (HK3.out.trans kF)
    clear kF HC3 HK3
    obtain ⟨⟨s0, s1, s2, s3⟩, ⟨t0, t1, t2, t3⟩, lt4⟩ := cell_fr HC4.out
    go_wp2
    obtain ⟨hl4, hk4⟩ := node_laid HC4.out ⟨0, 0, 0, []⟩ none 0 (fun _ => False) w (.inr (Nat.le_refl _)) HK4.out
    obtain ⟨y0, y1, y2, y3⟩ := cell_four hl4
    dsimp only [List.length_nil] at y0 y1 y2 y3
    refine bodyPost_ret (v := .tuple #[.agg #[.int .i64 0, .int .i64 0, .float .f64 0, .slice none 0 0], .int .i64 2]) (by simp [results, Try.results57, go_sem, y0, y1, y2, y3]) rfl ?_
    exact ⟨hk4, .inr ⟨HREAD.out, rfl⟩⟩
end Go.Proofs.Ytgpidbdgodgefaa
