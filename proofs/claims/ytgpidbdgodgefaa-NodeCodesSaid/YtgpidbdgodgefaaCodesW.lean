/- The walk of NodeCodes: it answers true and turns nothing that was there. Conditions: as the theorems name them. -/
import Derived.Test.YtgpidbdgodgefaaCodes0
import Derived.Deep.CutRange
namespace Go.Proofs.Ytgpidbdgodgefaa
open Go.RowKit Go.Deep

set_option maxHeartbeats 16000000 in
set_option maxRecDepth 100000 in
theorem nodeCodes_any (x : RawV) (xa : Option Addr) (xc : Nat) (hh : Int) (sv : Value) (sa : Option Addr) (sc : Nat) (zs : List UInt8) (mv : Value) (ma : Option Addr) (mc : Nat) (ms : List UInt8) (hw : Int) (ta : Option Addr) (tl tc : Nat) (g : Nat → Int) (bb : Int) (w : World)
    (hx : RawOk w x xa xc) (hh1 : -9223372036854775808 ≤ hh ∧ hh ≤ 9223372036854775807) (hs : Sl w sv sa sc zs) (hzl : zs.length ≤ 140737488355328) (hm : Sl w mv ma mc ms) (hml : ms.length ≤ 140737488351232) (_htl : tl ≤ maxLen) (hg : ∀ i, -9223372036854775808 ≤ g i ∧ g i ≤ 9223372036854775807)
    (hat : ∀ i, i < tl → ∃ b off, ta = some ⟨b, off, none⟩ ∧ w.cell? ⟨b, off + i, none⟩ = some (.int .i64 (g i))) :
    Calls Try.prog 9 #[rawVal x xa xc, .int .i64 hh, sv, mv, .int .i64 hw, .slice ta tl tc, .int .u8 bb] w fun e w' => e = .returned (.bool true) ∧ Kp (fun _ => False) w w' := by
  have hsf : ∀ (a : Addr) (b : Nat) (m : Mode) (w : World), (store a (.float .f64 b) m).run Try.prog w = stored Try.prog w a (.float .f64 b) m := fun a b m w => run_store _ w a _ m rfl
  have hnp : ∀ (a : Addr) (w : World), (binOp .eql 41 (.pointer (some a)) (.pointer none)).run Try.prog w = .ok (.bool false) w := fun a w => neq_nil_ptr _ w a Try.underlying41
  have hse := hs.eq
  subst hse
  have hme := hm.eq
  subst hme
  have k0 : Kp (fun _ => False) w (w.alloc (.cells #[.int .i64 x.k, .int .i64 x.m, .int .i64 x.t, .float .f64 x.x, .slice xa x.d.length xc] 55)) := (Kp.refl _ w).alloc _
  have HX := Lib.hid (hx.keepF k0); have HK := Lib.hid k0
  have HXB := Lib.hid (hp_new w (.cells #[.int .i64 x.k, .int .i64 x.m, .int .i64 x.t, .float .f64 x.x, .slice xa x.d.length xc] 55))
  have HS0 := Lib.hid hs; have HM0 := Lib.hid hm; have HAT := Lib.hid hat; have HGR := Lib.hid hg
  clear hx k0 hs hm hat hg
  obtain ⟨hh1, hh2⟩ := hh1
  unfold rawVal
  go_enter Try.func9, Try.ntmps9
  go_wp2_with fail
  generalize w.alloc (.cells #[.int .i64 x.k, .int .i64 x.m, .int .i64 x.t, .float .f64 x.x, .slice xa x.d.length xc] 55) = w1 at *
  obtain ⟨x0, x1, x2, x3, x4⟩ := cell_fiv HXB.out
  go_wp2_with fail
  refine (one_any x xa xc hh w1 HX.out hh1 hh2).mono ?_
  rintro e w2 ⟨A, aa, ac, rfl, hna, hk2⟩
  have HA3 := Lib.hid (NB.new hna)
  have HK3 := Lib.hid ((HK.out.trans hk2).alloc (.cells #[.int .i64 A.kind, .int .i64 A.mode, .float .f64 A.time, .slice aa A.bs.length ac] 57))
  clear hna hk2 HX HK HXB x0 x1 x2 x3 x4
  unfold nodeVal
  obtain ⟨c0, c1, c2, c3⟩ := cell_four HA3.out.hp
  go_wp2_with fail
  clear c0 c1 c2 c3
  generalize w2.alloc (.cells #[.int .i64 A.kind, .int .i64 A.mode, .float .f64 A.time, .slice aa A.bs.length ac] 57) = w3 at *
  generalize w2.heap.size = nb at *
  refine (Lay2_any A aa ac w3 HA3.out.at').mono ?_
  rintro e w4 ⟨la, lc, lb, f, rfl, hl, hlb, hk4⟩
  have HA4 := Lib.hid (HA3.out.keepF hk4); have HK4 := Lib.hid (HK3.out.trans hk4); have HL4 := Lib.hid hl
  clear hl hk4 HA3 HK3
  obtain ⟨c0, c1, c2, c3⟩ := cell_four HA4.out.hp
  go_wp2_with fail
  clear c0 c1 c2 c3
  refine (refLay2_any A aa ac w4 HA4.out.at').mono ?_
  rintro e w5 ⟨ra, rc, lb', f', rfl, hl, hlb', hk5⟩
  obtain ⟨rfl, rfl⟩ := hlb.uniq hlb'
  have HA5 := Lib.hid (HA4.out.keepF hk5); have HK5 := Lib.hid (HK4.out.trans hk5)
  have HL5 := Lib.hid (HL4.out.keep hk5 (fun _ _ => id)); have HR5 := Lib.hid hl
  have HLB := Lib.hid hlb.len; have HL2 := Lib.hid hlb.two
  clear hl hk5 HA4 HK4 HL4 hlb hlb'
  go_wp2_with fail
  have HS : Hid (∀ w', Kp (fun _ => False) w5 w' → (w'.cell? ⟨nb, 0, none⟩ = some (.int .i64 A.kind) ∧ w'.cell? ⟨nb, 1, none⟩ = some (.int .i64 A.mode) ∧ w'.cell? ⟨nb, 2, none⟩ = some (.float .f64 A.time) ∧ w'.cell? ⟨nb, 3, none⟩ = some (.slice aa A.bs.length ac) ∧ (convert 27 9 (.slice la lb'.length lc)).run Try.prog w' = .ok (.string ⟨lb'.toArray⟩) w' ∧ (convert 27 9 (.slice ra lb'.length rc)).run Try.prog w' = .ok (.string ⟨lb'.toArray⟩) w')) := fun w' k => by
    obtain ⟨a0, a1, a2, a3⟩ := cell_four (HA5.out.keepF k).hp
    exact ⟨a0, a1, a2, a3, run_conv (HL5.out.keep k (fun _ _ => id)), run_conv (HR5.out.keep k (fun _ _ => id))⟩
  have HGA := Lib.hid (fun (w' : World) (k : Kp (fun _ => False) w5 w') => (HA5.out.keepF k).at')
  refine wp_region_held_drew (S := fun w' => w'.cell? ⟨nb, 0, none⟩ = some (.int .i64 A.kind) ∧ w'.cell? ⟨nb, 1, none⟩ = some (.int .i64 A.mode) ∧ w'.cell? ⟨nb, 2, none⟩ = some (.float .f64 A.time) ∧ w'.cell? ⟨nb, 3, none⟩ = some (.slice aa A.bs.length ac) ∧ (convert 27 9 (.slice la lb'.length lc)).run Try.prog w' = .ok (.string ⟨lb'.toArray⟩) w' ∧ (convert 27 9 (.slice ra lb'.length rc)).run Try.prog w' = .ok (.string ⟨lb'.toArray⟩) w') (by kernel_rfl) (HS.out _ (Kp.refl (fun _ => False) w5).drew) (fun hS => ?_)
  refine wpAnyH_take (i := 0) (v := ?_) rfl (by kernel_rfl) (by kernel_rfl) (by kernel_rfl) (fun _ _ _ h => h) (Or.inl ⟨by rfl, ?_⟩) (by assumption) ?_
  rotate_left 1
  · (intro w hSw; (try dsimp only at hSw); go_simp; try with_reducible rfl)
  try simp only [Act.put, List.setIfInBounds_toArray, List.set_cons_zero, List.set_cons_succ, List.getElem_toArray, List.getElem_cons_zero]
  refine wpAnyH_take (i := 1) (v := ?_) rfl (by kernel_rfl) (by kernel_rfl) (by kernel_rfl) (fun _ _ _ h => h) (Or.inl ⟨by rfl, ?_⟩) (by assumption) ?_
  rotate_left 1
  · (intro w hSw; (try dsimp only at hSw); go_simp; try with_reducible rfl)
  try simp only [Act.put, List.setIfInBounds_toArray, List.set_cons_zero, List.set_cons_succ, List.getElem_toArray, List.getElem_cons_succ, List.getElem_cons_zero]
  refine wpAnyH_take (i := 2) (v := ?_) rfl (by kernel_rfl) (by kernel_rfl) (by kernel_rfl) (fun _ _ _ h => h) (Or.inl ⟨by rfl, ?_⟩) (by assumption) ?_
  rotate_left 1
  · (intro w hSw; (try dsimp only at hSw); go_simp; try with_reducible rfl)
  try simp only [Act.put, List.setIfInBounds_toArray, List.set_cons_zero, List.set_cons_succ, List.getElem_toArray, List.getElem_cons_succ, List.getElem_cons_zero]
  refine wpAnyH_take (i := 3) (v := ?_) rfl (by kernel_rfl) (by kernel_rfl) (by kernel_rfl) (fun _ _ _ h => h) (Or.inl ⟨by rfl, ?_⟩) (by assumption) ?_
  rotate_left 1
  · (intro w hSw; (try dsimp only at hSw); go_simp; try with_reducible rfl)
  try simp only [Act.put, List.setIfInBounds_toArray, List.set_cons_zero, List.set_cons_succ, List.getElem_toArray, List.getElem_cons_succ, List.getElem_cons_zero]
  refine wpAnyH_take (i := 4) (v := ?_) rfl (by kernel_rfl) (by kernel_rfl) (by kernel_rfl) (fun _ _ _ h => h) (Or.inl ⟨by rfl, ?_⟩) (by assumption) ?_
  rotate_left 1
  · (intro w hSw; (try dsimp only at hSw); go_simp; try with_reducible rfl)
  try simp only [Act.put, List.setIfInBounds_toArray, List.set_cons_zero, List.set_cons_succ, List.getElem_toArray, List.getElem_cons_succ, List.getElem_cons_zero]
  refine wpAnyH_take (i := 5) (v := ?_) rfl (by kernel_rfl) (by kernel_rfl) (by kernel_rfl) (fun _ _ _ h => h) (Or.inl ⟨by rfl, ?_⟩) (by assumption) ?_
  rotate_left 1
  · (intro w hSw; (try dsimp only at hSw); go_simp; try with_reducible rfl)
  try simp only [Act.put, List.setIfInBounds_toArray, List.set_cons_zero, List.set_cons_succ, List.getElem_toArray, List.getElem_cons_succ, List.getElem_cons_zero]
  refine wpAnyH_take (i := 6) (v := ?_) rfl (by kernel_rfl) (by kernel_rfl) (by kernel_rfl) (fun _ _ _ h => h) (Or.inl ⟨by rfl, ?_⟩) (by assumption) ?_
  rotate_left 1
  · (intro w hSw; (try dsimp only at hSw); go_simp; try with_reducible rfl)
  try simp only [Act.put, List.setIfInBounds_toArray, List.set_cons_zero, List.set_cons_succ, List.getElem_toArray, List.getElem_cons_succ, List.getElem_cons_zero]
  refine wpAnyH_take (i := 7) (v := ?_) rfl (by kernel_rfl) (by kernel_rfl) (by kernel_rfl) (fun _ _ _ h => h) (Or.inl ⟨by rfl, ?_⟩) (by assumption) ?_
  rotate_left 1
  · (intro w hSw; (try dsimp only at hSw); go_simp; try with_reducible rfl)
  try simp only [Act.put, List.setIfInBounds_toArray, List.set_cons_zero, List.set_cons_succ, List.getElem_toArray, List.getElem_cons_succ, List.getElem_cons_zero]
  refine wpAnyH_take (i := 8) (v := ?_) rfl (by kernel_rfl) (by kernel_rfl) (by kernel_rfl) (fun _ _ _ h => h) (Or.inl ⟨by rfl, ?_⟩) (by assumption) ?_
  rotate_left 1
  · (intro w hSw; (try dsimp only at hSw); go_simp; try with_reducible rfl)
  try simp only [Act.put, List.setIfInBounds_toArray, List.set_cons_zero, List.set_cons_succ, List.getElem_toArray, List.getElem_cons_succ, List.getElem_cons_zero]
  refine wpAnyH_take (i := 9) (v := ?_) rfl (by kernel_rfl) (by kernel_rfl) (by kernel_rfl) (fun _ _ _ h => h) (Or.inl ⟨by rfl, ?_⟩) (by assumption) ?_
  rotate_left 1
  · (intro w hSw; (try dsimp only at hSw); go_simp; try with_reducible rfl)
  try simp only [Act.put, List.setIfInBounds_toArray, List.set_cons_zero, List.set_cons_succ, List.getElem_toArray, List.getElem_cons_succ, List.getElem_cons_zero]
  refine wpAnyH_take (i := 10) (v := ?_) rfl (by kernel_rfl) (by kernel_rfl) (by kernel_rfl) (fun _ _ _ h => h) (Or.inl ⟨by rfl, ?_⟩) (by assumption) ?_
  rotate_left 1
  · (intro w hSw; (try dsimp only at hSw); go_simp; try with_reducible rfl)
  try simp only [Act.put, List.setIfInBounds_toArray, List.set_cons_zero, List.set_cons_succ, List.getElem_toArray, List.getElem_cons_succ, List.getElem_cons_zero]
  refine wpAnyH_take (i := 11) (v := ?_) rfl (by kernel_rfl) (by kernel_rfl) (by kernel_rfl) (fun _ _ _ h => h) (Or.inl ⟨by rfl, ?_⟩) (by assumption) ?_
  rotate_left 1
  · (intro w hSw; (try dsimp only at hSw); go_simp; try with_reducible rfl)
  try simp only [Act.put, List.setIfInBounds_toArray, List.set_cons_zero, List.set_cons_succ, List.getElem_toArray, List.getElem_cons_succ, List.getElem_cons_zero]
  refine wpAnyH_take (i := 13) (v := ?_) rfl (by kernel_rfl) (by kernel_rfl) (by kernel_rfl) (fun _ _ _ h => h) (Or.inl ⟨by rfl, ?_⟩) (by assumption) ?_
  rotate_left 1
  · (intro w hSw; (try dsimp only at hSw); go_simp; try with_reducible rfl)
  try simp only [Act.put, List.setIfInBounds_toArray, List.set_cons_zero, List.set_cons_succ, List.getElem_toArray, List.getElem_cons_succ, List.getElem_cons_zero]
  refine wpAnyH_ready (rs := [12]) (by kernel_rfl) (by simp) (AllReadyH.cons rfl (fun K hK => ?_) AllReadyH.nil)
  go_simp
  refine (right_any A aa ac _ (HGA.out _ ((Kp.refl (fun _ => False) w5).drew))).mono ?_
  rintro e v1 ⟨rfl, hv1⟩
  have KV1 := Lib.hid (((Kp.refl (fun _ => False) w5).drew).trans hv1)
  clear hv1
  try go_wp2_with fail
  refine hK.out _ _ ?_ (fun hS => ?_)
  · exact HS.out _ KV1.out
  clear hK K
  try simp only [Act.put, List.setIfInBounds_toArray, List.set_cons_zero, List.set_cons_succ, List.getElem_toArray, List.getElem_cons_succ, List.getElem_cons_zero]
  refine wpAnyH_ready (rs := [14]) (by kernel_rfl) (by simp) (AllReadyH.cons rfl (fun K hK => ?_) AllReadyH.nil)
  go_simp
  refine (refRight_any A aa ac _ (HGA.out _ KV1.out)).mono ?_
  rintro e v2 ⟨rfl, hv2⟩
  have KV2 := Lib.hid (KV1.out.trans hv2)
  clear hv2
  try go_wp2_with fail
  refine hK.out _ _ ?_ (fun hS => ?_)
  · exact HS.out _ KV2.out
  clear hK K
  try simp only [Act.put, List.setIfInBounds_toArray, List.set_cons_zero, List.set_cons_succ, List.getElem_toArray, List.getElem_cons_succ, List.getElem_cons_zero]
  refine wpAnyH_take (i := 15) (v := ?_) rfl (by kernel_rfl) (by kernel_rfl) (by kernel_rfl) (fun _ _ _ h => h) (Or.inl ⟨by rfl, ?_⟩) (by assumption) ?_
  rotate_left 1
  · (intro w hSw; (try dsimp only at hSw); go_simp; try with_reducible rfl)
  try simp only [Act.put, List.setIfInBounds_toArray, List.set_cons_zero, List.set_cons_succ, List.getElem_toArray, List.getElem_cons_succ, List.getElem_cons_zero]
  refine wpAnyH_take (i := 16) (v := ?_) rfl (by kernel_rfl) (by kernel_rfl) (by kernel_rfl) (fun _ _ _ h => h) (Or.inl ⟨by rfl, ?_⟩) (by assumption) ?_
  rotate_left 1
  · (intro w hSw; (try dsimp only at hSw); go_simp; try with_reducible rfl)
  try simp only [Act.put, List.setIfInBounds_toArray, List.set_cons_zero, List.set_cons_succ, List.getElem_toArray, List.getElem_cons_succ, List.getElem_cons_zero]
  refine wpAnyH_done (by kernel_rfl) ?_ _
  have HL6 := Lib.hid (HR5.out.keep KV2.out (fun _ _ => id)); have HK6 := Lib.hid (HK5.out.trans KV2.out)
  clear hS HS HGA HA5 HK5 HL5 HR5 KV1 KV2
  go_wp2_with fail
  refine (Few_any _ sa sc zs zs.length v2 (HS0.out.keep HK6.out (fun _ _ => id)) hzl (by omega)).mono ?_
  rintro e w7 ⟨zv, rfl, hown, hk7⟩
  rw [List.take_length] at hown
  have HK7 := Lib.hid (HK6.out.trans hk7)
  have HL7 := Lib.hid (HL6.out.keep hk7 (fun _ _ => id))
  have HO7 := Lib.hid hown
  have HK6s := Lib.hid HK6.out.size
  clear hk7 hown HK6 HL6 HS0
  go_upto_region 7 with fail
  go_cut [72] from 66 to 72 (fun s wx => s = .bool (decide (f' = 0 ∧ 0 < hw.tmod 5)) ∧ wx = w7)
  case first =>
    by_cases hf : f' = 0
    · subst hf
      by_cases h5 : 0 < hw.tmod 5
      · go_wp2
        go_meet
        exact ⟨by simp [h5], rfl⟩
      · go_wp2
        go_meet
        exact ⟨by simp; omega, rfl⟩
    · have hf2 : (f' == 0) = false := by simp [hf]
      go_wp2
      go_meet
      exact ⟨by simp [hf], rfl⟩
  obtain ⟨rfl, rfl⟩ := hcut
  generalize hcd : decide (f' = 0 ∧ 0 < hw.tmod 5) = cd at *
  have HCD := Lib.hid hcd
  clear hcd
  go_upto_if 72 with fail
  go_cut [20, 21] from 73 to 105 (fun s20 _ wx => ∃ (za : Option Addr) (zc : Nat) (zb : List UInt8), s20 = .slice za zb.length zc ∧ Hid (Sl wx (.slice za zb.length zc) za zc zb) ∧ Hid (zb.length ≤ 140737488355328) ∧ Hid (∀ b, blk za = some b → b < wx.heap.size) ∧ Hid (Kp (fun _ => False) w wx))
  case first =>
    have HO7' := Lib.hid (owns_from HO7.out HK6s.out)
    cases cd with
    | false =>
      go_wp2_with fail
      go_meet
      obtain ⟨za, zc, hz, _, hzb⟩ := sl_of_owns HO7'.out
      have hez := hz.eq
      subst hez
      exact ⟨za, zc, zs, rfl, Lib.hid hz, Lib.hid hzl, Lib.hid (fun b hb => (hzb b hb).2), HK7⟩
    | true =>
      obtain ⟨rfl, _⟩ := of_decide_eq_true HCD.out
      have h13 : 13 ≤ lb'.length := by
        rcases HL2.out with h | ⟨_, h⟩
        · cases h
        · exact h
      go_wp2_with fail
      refine (Few_any _ ra rc lb' lb'.length wc HL7.out (by have := HLB.out; omega) (by have := HLB.out; omega)).mono ?_
      rintro e w8 ⟨zv2, rfl, hown, hk8⟩
      rw [List.take_length] at hown
      have HK8 := Lib.hid (HK7.out.trans hk8)
      have HO8 := Lib.hid (owns_from hown HK7.out.size)
      obtain ⟨g0, c0, rfl⟩ : ∃ g c, zv2 = .slice (some ⟨g, 0, none⟩) lb'.length c := by
        obtain ⟨_, h2 | ⟨g, cap, cur, hv, _⟩⟩ := hown
        · have := h2.2; omega
        · exact ⟨g, cap, hv⟩
      clear hk8 hown HO7 HO7' HK7 HL7
      go_wp2_with fail
      go_loopw [21] (fun i wv => ∃ j : Nat, i = .int .i64 j ∧ j ≤ min tl 2 ∧ Hid (∃ xs : List UInt8, xs.length = lb'.length ∧ wv.ownsRow w.heap.size 5 1 (.slice (some ⟨g0, 0, none⟩) lb'.length c0) lb'.length (xs.map byteV)) ∧ Hid (Kp (fun _ => False) w wv)) (fun i _ => 2 - (intOf i).toNat)
      case atStart => exact ⟨0, rfl, Nat.zero_le _, Lib.hid ⟨lb', rfl, HO8.out⟩, HK8⟩
      case round =>
        obtain ⟨j, rfl, hj, HJ, HKj⟩ := hrel
        by_cases hjn : j < min tl 2
        · have h1 : j < tl := by omega
          have h2 : j < 2 := by omega
          obtain ⟨xs, hxl, hox⟩ := HJ.out
          obtain ⟨tb, off, rfl, htc⟩ := HAT.out j h1
          have hta := HKj.out.cell htc id
          have hbase := (owns_block hox g0 rfl).1
          clear htc
          go_wp2_with fail
          refine (pick_any (g j) lb'.length wr (by omega) (by have := HLB.out; omega) (HGR.out j).1 (HGR.out j).2).mono ?_
          rintro e w' ⟨rfl, rfl⟩
          obtain ⟨r, hr⟩ : ∃ r : Nat, g j % (lb'.length : Int) = (r : Int) := ⟨(g j % (lb'.length : Int)).toNat, by have := Int.emod_nonneg (g j) (show (lb'.length : Int) ≠ 0 by omega); omega⟩
          have hrl : r < lb'.length := by have := Int.emod_lt_of_pos (g j) (show (0 : Int) < (lb'.length : Int) by omega); omega
          rw [hr]
          have hcell : wr.cell? ⟨g0, r, none⟩ = some (byteV (xs[r]'(by omega))) := by
            rw [World.ownsRow.cellAt hox r (by omega)]
            simp [hxl, hrl]
          have hfz := World.ownsRow.frozenAt hox r
          have HST := Lib.hid (fun u => (World.ownsRow.stored hox r u).1)
          unfold byteV at hcell
          generalize hu : xs[r]'(by omega) = u0 at hcell
          clear hu hox HJ
          go_wp2
          obtain ⟨u1, hu1⟩ := xor_byte (u0.toNat : Int) bb
          rw [hu1]
          refine ⟨⟨j + 1, by go_num, by omega, Lib.hid ⟨xs.set r u1, by simp [hxl], ?_⟩, Lib.hid (HKj.out.setCell ⟨g0, r, none⟩ (.inr hbase) _)⟩, by simp [intOf]; omega⟩
          rw [List.map_set]
          exact HST.out (byteV u1)
        · obtain ⟨xs, hxl, hox⟩ := HJ.out
          obtain ⟨ti, I⟩ := byteInfo
          have HXL := Lib.hid hxl
          have HOX : Hid (wr.ownsRow w.heap.size 5 1 (.slice (some ⟨g0, 0, none⟩) lb'.length c0) xs.length (xs.map byteV)) := by
            show World.ownsRow _ _ _ _ _ _ _
            rw [hxl]
            exact hox
          have HMX := Lib.hid (HM0.out.keep HKj.out (fun _ _ => id))
          clear hox hxl HJ
          by_cases hlt : j < tl
          · have q2 : ¬ j < 2 := by omega
            by_cases h7 : hw.tmod 7 = 0
            · have h7q : (hw.tmod 7 == 0) = true := by simp [h7]
              go_wp2_with (at_builtin; refine wpList_append_sl rfl I w.heap.size (.tmp 103) (.tmp 104) rfl (.slice (some ⟨g0, 0, none⟩) lb'.length c0) xs rfl HOX.out HKj.out.size (.slice ma ms.length mc) ma mc ms rfl HMX.out (by have := HLB.out; have := HXL.out; omega) ?_)
              intro v' w9 hown' hgr _
              have kg := HKj.out.grown hgr (fun b hb => .inr (owns_block HOX.out b hb).1)
              obtain ⟨za, zc, hz, _, hzb⟩ := sl_of_owns (bs := xs ++ ms) (by simpa using hown')
              have hez := hz.eq
              subst hez
              have HZ := Lib.hid hz; have HZB := Lib.hid hzb; have HKG := Lib.hid kg
              clear hown' hgr hz hzb kg
              go_wp2_with fail
              go_meet
              exact ⟨za, zc, xs ++ ms, rfl, HZ, Lib.hid (by have := HLB.out; have := HXL.out; simp; omega), Lib.hid (fun b hb => (HZB.out b hb).2), HKG⟩
            · have h7q : (hw.tmod 7 == 0) = false := by simp [h7]
              go_wp2_with fail
              go_meet
              obtain ⟨za, zc, hz, _, hzb⟩ := sl_of_owns HOX.out
              have hez := hz.eq
              rw [hez] at hz
              exact ⟨za, zc, xs, hez, Lib.hid hz, Lib.hid (by have := HLB.out; have := HXL.out; omega), Lib.hid (fun b hb => (hzb b hb).2), HKj⟩
          · have q1 : ¬ j < tl := by omega
            by_cases h7 : hw.tmod 7 = 0
            · have h7q : (hw.tmod 7 == 0) = true := by simp [h7]
              go_wp2_with (at_builtin; refine wpList_append_sl rfl I w.heap.size (.tmp 103) (.tmp 104) rfl (.slice (some ⟨g0, 0, none⟩) lb'.length c0) xs rfl HOX.out HKj.out.size (.slice ma ms.length mc) ma mc ms rfl HMX.out (by have := HLB.out; have := HXL.out; omega) ?_)
              intro v' w9 hown' hgr _
              have kg := HKj.out.grown hgr (fun b hb => .inr (owns_block HOX.out b hb).1)
              obtain ⟨za, zc, hz, _, hzb⟩ := sl_of_owns (bs := xs ++ ms) (by simpa using hown')
              have hez := hz.eq
              subst hez
              have HZ := Lib.hid hz; have HZB := Lib.hid hzb; have HKG := Lib.hid kg
              clear hown' hgr hz hzb kg
              go_wp2_with fail
              go_meet
              exact ⟨za, zc, xs ++ ms, rfl, HZ, Lib.hid (by have := HLB.out; have := HXL.out; simp; omega), Lib.hid (fun b hb => (HZB.out b hb).2), HKG⟩
            · have h7q : (hw.tmod 7 == 0) = false := by simp [h7]
              go_wp2_with fail
              go_meet
              obtain ⟨za, zc, hz, _, hzb⟩ := sl_of_owns HOX.out
              have hez := hz.eq
              rw [hez] at hz
              exact ⟨za, zc, xs, hez, Lib.hid hz, Lib.hid (by have := HLB.out; have := HXL.out; omega), Lib.hid (fun b hb => (hzb b hb).2), HKj⟩
  obtain ⟨za, zc, zb, rfl, HSF, HZLF, HZBF, HKF⟩ := hcut
  clear HO7 HL7 HK7
  generalize wc = wz at *
  go_wp2_with fail
  obtain ⟨ok, hok⟩ : ∃ ok, takeOk zb false = ok := ⟨_, rfl⟩
  obtain ⟨T, hT⟩ : ∃ T, takenN zb ok = T := ⟨_, rfl⟩
  obtain ⟨rs, hrs⟩ : ∃ rs, (tk4 zb false).2.1 = rs := ⟨_, rfl⟩
  obtain ⟨lk, hlk⟩ : ∃ lk, (tk4 zb false).2.2 = lk := ⟨_, rfl⟩
  have HOK := Lib.hid hok; have HT0 := Lib.hid hT; have HRS := Lib.hid hrs; have HLK := Lib.hid hlk
  clear hok hT hrs hlk
  refine (Read2_any za zc zb wz HSF.out HZLF.out).mono ?_
  rintro e wa ⟨P, pa, pc, f1, rfl, hp, hrb, hka⟩
  have HPb := Lib.hid (NB.new hp)
  have ka := hka.alloc (.cells #[.int .i64 P.kind, .int .i64 P.mode, .float .f64 P.time, .slice pa P.bs.length pc] 57)
  have HSb := Lib.hid (HSF.out.keep ka (fun _ _ => id)); have HKb := Lib.hid (HKF.out.trans ka)
  have HZBb := Lib.hid (show ∀ b, blk za = some b → b < (wa.alloc (.cells #[.int .i64 P.kind, .int .i64 P.mode, .float .f64 P.time, .slice pa P.bs.length pc] 57)).heap.size from fun b hb => Nat.lt_of_lt_of_le (HZBF.out b hb) ka.size)
  clear hp hka ka HSF HKF HZBF
  unfold nodeVal
  go_wp2_with fail
  generalize wa.alloc (.cells #[.int .i64 P.kind, .int .i64 P.mode, .float .f64 P.time, .slice pa P.bs.length pc] 57) = wb at *
  generalize wa.heap.size = np at *
  refine (refRead2_any za zc zb wb HSb.out HZLF.out HZBb.out).mono ?_
  rintro e wc ⟨Q, qa, qc, f2, rfl, hq, hrb2, hkc⟩
  obtain ⟨rfl, rfl⟩ := hrb.uniq hrb2
  have HQd := Lib.hid (NB.new hq)
  have kc := hkc.alloc (.cells #[.int .i64 Q.kind, .int .i64 Q.mode, .float .f64 Q.time, .slice qa Q.bs.length qc] 57)
  have HPd := Lib.hid (HPb.out.keepF kc); have HSd := Lib.hid (HSb.out.keep kc (fun _ _ => id)); have HKd := Lib.hid (HKb.out.trans kc)
  have HZBd := Lib.hid (show ∀ b, blk za = some b → b < (wc.alloc (.cells #[.int .i64 Q.kind, .int .i64 Q.mode, .float .f64 Q.time, .slice qa Q.bs.length qc] 57)).heap.size from fun b hb => Nat.lt_of_lt_of_le (HZBb.out b hb) kc.size)
  clear hq hkc kc HPb HSb HKb HZBb hrb hrb2
  unfold nodeVal
  go_wp2_with fail
  generalize wc.alloc (.cells #[.int .i64 Q.kind, .int .i64 Q.mode, .float .f64 Q.time, .slice qa Q.bs.length qc] 57) = wd at *
  generalize wc.heap.size = nq at *
  refine (NewReader_any _ za zc zb wd HSd.out HZLF.out).mono ?_
  rintro e we ⟨rp, row, rfl, hrp, _, hrd, hke⟩
  have HRDe := Lib.hid hrd; have HKE := Lib.hid hke; have HRP := Lib.hid hrp
  clear hrd hke hrp
  go_wp2_with fail
  refine (Take_any rp row zb false we HRDe.out HZLF.out).mono ?_
  rintro e wf htk
  obtain ⟨row2, ua, uc, rfl, hu, hrd, hkf⟩ := take2 htk HOK.out HT0.out HRS.out HLK.out
  have kdf := HKE.out.step hkf (S := fun _ => False) (fun i hi h => by have := HRP.out; omega)
  have HPf := Lib.hid (HPd.out.keepF kdf); have HQf := Lib.hid (HQd.out.keepF kdf); have HSf := Lib.hid (HSd.out.keep kdf (fun _ _ => id)); have HKf := Lib.hid (HKd.out.trans kdf)
  have HRDf := Lib.hid hrd
  have HZBf := Lib.hid (show ∀ b, blk za = some b → b < wf.heap.size from fun b hb => Nat.lt_of_lt_of_le (HZBd.out b hb) kdf.size)
  have HTg := Lib.hid (NB.new hu)
  have HUL := Lib.hid (show 0 < T.bs.length → ∀ b, blk ua = some b → b < wf.heap.size from fun hp b hb => hu.sl.lt hp b hb)
  clear htk hu hrd hkf kdf HPd HQd HSd HKd HZBd HRDe HKE HRP
  unfold nodeVal
  have kh : Kp (fun _ => False) wf ((wf.alloc (.cells #[.int .i64 T.kind, .int .i64 T.mode, .float .f64 T.time, .slice ua T.bs.length uc] 57)).alloc (.cells #[.slice za zb.length zc, .bool false] 46)) := ((Kp.refl _ wf).alloc _).alloc _
  have HRDh : Hid (Rd 46 ((wf.alloc (.cells #[.int .i64 T.kind, .int .i64 T.mode, .float .f64 T.time, .slice ua T.bs.length uc] 57)).alloc (.cells #[.slice za zb.length zc, .bool false] 46)) (wf.heap.size + 1) (blk za) zb false) := ⟨za, zc, hp_new' _ _ (by simp), HSf.out.keep kh (fun _ _ => id), rfl, fun b hb => by have := HZBf.out b hb; simp; omega⟩
  have HTh := Lib.hid (HTg.out.keepF ((Kp.refl (fun _ => False) _).alloc (.cells #[.slice za zb.length zc, .bool false] 46)))
  have HKh := Lib.hid kh
  have HWH := Lib.hid (show ((wf.alloc (.cells #[.int .i64 T.kind, .int .i64 T.mode, .float .f64 T.time, .slice ua T.bs.length uc] 57)).alloc (.cells #[.slice za zb.length zc, .bool false] 46)).heap.size = wf.heap.size + 2 by simp)
  clear kh HTg HSf HZBf
  go_wp2_with fail
  generalize ((wf.alloc (.cells #[.int .i64 T.kind, .int .i64 T.mode, .float .f64 T.time, .slice ua T.bs.length uc] 57)).alloc (.cells #[.slice za zb.length zc, .bool false] 46)) = wh at *
  refine (refTake_any (wf.heap.size + 1) (blk za) zb false wh HRDh.out HZLF.out).mono ?_
  rintro e wi htk
  obtain ⟨row3, va, vc, rfl, hv, hrd3, hki⟩ := take2 htk HOK.out HT0.out HRS.out HLK.out
  have kfi := HKh.out.step hki (S := fun _ => False) (fun i hi h => by omega)
  have ki := kfi.alloc (.cells #[.int .i64 T.kind, .int .i64 T.mode, .float .f64 T.time, .slice va T.bs.length vc] 57)
  have HPj := Lib.hid (HPf.out.keepF ki); have HQj := Lib.hid (HQf.out.keepF ki); have HKj := Lib.hid (HKf.out.trans ki)
  have HRDj := Lib.hid (HRDf.out.keep ki id (fun _ _ => id))
  have HTj := Lib.hid ((HTh.out.keep hki (fun h => by omega) (fun hp b hb h => by have := HUL.out hp b hb; omega)).keepF ((Kp.refl (fun _ => False) wi).alloc (.cells #[.int .i64 T.kind, .int .i64 T.mode, .float .f64 T.time, .slice va T.bs.length vc] 57)))
  have HUj := Lib.hid (NB.new hv)
  obtain ⟨ba, bc, hbc, _⟩ := hrd3
  obtain ⟨b0, _, _⟩ := cell_two (hp_old hbc (.cells #[.int .i64 T.kind, .int .i64 T.mode, .float .f64 T.time, .slice va T.bs.length vc] 57))
  have HBj := Lib.hid b0
  have HBC := Lib.hid (hp_old hbc (.cells #[.int .i64 T.kind, .int .i64 T.mode, .float .f64 T.time, .slice va T.bs.length vc] 57))
  clear htk hv hki kfi ki hbc b0 HPf HQf HKf HRDf HTh HKh HRDh HWH
  unfold nodeVal
  go_wp2_with fail
  generalize wi.alloc (.cells #[.int .i64 T.kind, .int .i64 T.mode, .float .f64 T.time, .slice va T.bs.length vc] 57) = wj at *
  generalize wi.heap.size = nu at *
  generalize wf.heap.size + 1 = pr at *
  generalize wf.heap.size = nt at *
  have HS : Hid (∀ w', Kp (fun _ => False) wj w' → (w'.cell? ⟨np, 0, none⟩ = some (.int .i64 Q.kind) ∧ w'.cell? ⟨np, 1, none⟩ = some (.int .i64 Q.mode) ∧ w'.cell? ⟨np, 2, none⟩ = some (.float .f64 Q.time) ∧ w'.cell? ⟨np, 3, none⟩ = some (.slice pa Q.bs.length pc) ∧ w'.cell? ⟨nq, 0, none⟩ = some (.int .i64 Q.kind) ∧ w'.cell? ⟨nq, 1, none⟩ = some (.int .i64 Q.mode) ∧ w'.cell? ⟨nq, 2, none⟩ = some (.float .f64 Q.time) ∧ w'.cell? ⟨nq, 3, none⟩ = some (.slice qa Q.bs.length qc) ∧ w'.cell? ⟨nt, 0, none⟩ = some (.int .i64 T.kind) ∧ w'.cell? ⟨nt, 1, none⟩ = some (.int .i64 T.mode) ∧ w'.cell? ⟨nt, 2, none⟩ = some (.float .f64 T.time) ∧ w'.cell? ⟨nt, 3, none⟩ = some (.slice ua T.bs.length uc) ∧ w'.cell? ⟨nu, 0, none⟩ = some (.int .i64 T.kind) ∧ w'.cell? ⟨nu, 1, none⟩ = some (.int .i64 T.mode) ∧ w'.cell? ⟨nu, 2, none⟩ = some (.float .f64 T.time) ∧ w'.cell? ⟨nu, 3, none⟩ = some (.slice va T.bs.length vc) ∧ w'.cell? ⟨pr, 0, none⟩ = some (.slice ba rs.length bc))) := fun w' k => by
    obtain ⟨a0, a1, a2, a3⟩ := cell_four (HPj.out.keepF k).hp
    obtain ⟨b0, b1, b2, b3⟩ := cell_four (HQj.out.keepF k).hp
    obtain ⟨c0, c1, c2, c3⟩ := cell_four (HTj.out.keepF k).hp
    obtain ⟨d0, d1, d2, d3⟩ := cell_four (HUj.out.keepF k).hp
    obtain ⟨e0, _, _⟩ := cell_two (k.hp HBC.out id)
    exact ⟨a0, a1, a2, a3, b0, b1, b2, b3, c0, c1, c2, c3, d0, d1, d2, d3, e0⟩
  clear HBj
  have HG1 := Lib.hid (fun (w' : World) (k : Kp (fun _ => False) wj w') => (HPj.out.keepF k).at')
  have HG2 := Lib.hid (fun (w' : World) (k : Kp (fun _ => False) wj w') => (HQj.out.keepF k).at')
  have HG3 := Lib.hid (fun (w' : World) (k : Kp (fun _ => False) wj w') => (HTj.out.keepF k).at')
  have HG4 := Lib.hid (fun (w' : World) (k : Kp (fun _ => False) wj w') => (HUj.out.keepF k).at')
  have HG5 := Lib.hid (fun (w' : World) (k : Kp (fun _ => False) wj w') => HRDj.out.keep k id (fun _ _ => id))
  clear HPj HQj HTj HUj HRDj HBC
  cases ok with
  | false =>
    refine wp_region_held_drew (S := fun w' => w'.cell? ⟨np, 0, none⟩ = some (.int .i64 Q.kind) ∧ w'.cell? ⟨np, 1, none⟩ = some (.int .i64 Q.mode) ∧ w'.cell? ⟨np, 2, none⟩ = some (.float .f64 Q.time) ∧ w'.cell? ⟨np, 3, none⟩ = some (.slice pa Q.bs.length pc) ∧ w'.cell? ⟨nq, 0, none⟩ = some (.int .i64 Q.kind) ∧ w'.cell? ⟨nq, 1, none⟩ = some (.int .i64 Q.mode) ∧ w'.cell? ⟨nq, 2, none⟩ = some (.float .f64 Q.time) ∧ w'.cell? ⟨nq, 3, none⟩ = some (.slice qa Q.bs.length qc) ∧ w'.cell? ⟨nt, 0, none⟩ = some (.int .i64 T.kind) ∧ w'.cell? ⟨nt, 1, none⟩ = some (.int .i64 T.mode) ∧ w'.cell? ⟨nt, 2, none⟩ = some (.float .f64 T.time) ∧ w'.cell? ⟨nt, 3, none⟩ = some (.slice ua T.bs.length uc) ∧ w'.cell? ⟨nu, 0, none⟩ = some (.int .i64 T.kind) ∧ w'.cell? ⟨nu, 1, none⟩ = some (.int .i64 T.mode) ∧ w'.cell? ⟨nu, 2, none⟩ = some (.float .f64 T.time) ∧ w'.cell? ⟨nu, 3, none⟩ = some (.slice va T.bs.length vc) ∧ w'.cell? ⟨pr, 0, none⟩ = some (.slice ba rs.length bc)) (by kernel_rfl) (HS.out _ (Kp.refl (fun _ => False) wj).drew) (fun hS => ?_)
    refine wpAnyH_ready (rs := [0]) (by kernel_rfl) (by simp) (AllReadyH.cons rfl (fun K hK => ?_) AllReadyH.nil)
    go_simp
    refine (known10_any _).mono ?_
    rintro e v1 ⟨rfl, hv1⟩
    have KW1 := Lib.hid (((Kp.refl (fun _ => False) wj).drew).trans hv1)
    clear hv1
    try go_wp2_with fail
    refine hK.out _ _ ?_ (fun hS => ?_)
    · exact HS.out _ KW1.out
    clear hK K
    try simp only [Act.put, List.setIfInBounds_toArray, List.set_cons_zero, List.set_cons_succ, List.getElem_toArray, List.getElem_cons_succ, List.getElem_cons_zero]
    refine wpAnyH_take (i := 1) (v := ?_) rfl (by kernel_rfl) (by kernel_rfl) (by kernel_rfl) (fun _ _ _ h => h) (Or.inl ⟨by rfl, ?_⟩) (by assumption) ?_
    rotate_left 1
    · (intro w hSw; (try dsimp only at hSw); go_simp; try with_reducible rfl)
    try simp only [Act.put, List.setIfInBounds_toArray, List.set_cons_zero, List.set_cons_succ, List.getElem_toArray, List.getElem_cons_succ, List.getElem_cons_zero]
    refine wpAnyH_take (i := 2) (v := ?_) rfl (by kernel_rfl) (by kernel_rfl) (by kernel_rfl) (fun _ _ _ h => h) (Or.inl ⟨by rfl, ?_⟩) (by assumption) ?_
    rotate_left 1
    · (intro w hSw; (try dsimp only at hSw); go_simp; try with_reducible rfl)
    try simp only [Act.put, List.setIfInBounds_toArray, List.set_cons_zero, List.set_cons_succ, List.getElem_toArray, List.getElem_cons_succ, List.getElem_cons_zero]
    refine wpAnyH_take (i := 3) (v := ?_) rfl (by kernel_rfl) (by kernel_rfl) (by kernel_rfl) (fun _ _ _ h => h) (Or.inl ⟨by rfl, ?_⟩) (by assumption) ?_
    rotate_left 1
    · (intro w hSw; (try dsimp only at hSw); go_simp; try with_reducible rfl)
    try simp only [Act.put, List.setIfInBounds_toArray, List.set_cons_zero, List.set_cons_succ, List.getElem_toArray, List.getElem_cons_succ, List.getElem_cons_zero]
    refine wpAnyH_take (i := 4) (v := ?_) rfl (by kernel_rfl) (by kernel_rfl) (by kernel_rfl) (fun _ _ _ h => h) (Or.inl ⟨by rfl, ?_⟩) (by assumption) ?_
    rotate_left 1
    · (intro w hSw; (try dsimp only at hSw); go_simp; try with_reducible rfl)
    try simp only [Act.put, List.setIfInBounds_toArray, List.set_cons_zero, List.set_cons_succ, List.getElem_toArray, List.getElem_cons_succ, List.getElem_cons_zero]
    refine wpAnyH_take (i := 5) (v := ?_) rfl (by kernel_rfl) (by kernel_rfl) (by kernel_rfl) (fun _ _ _ h => h) (Or.inl ⟨by rfl, ?_⟩) (by assumption) ?_
    rotate_left 1
    · (intro w hSw; (try dsimp only at hSw); go_simp; try with_reducible rfl)
    try simp only [Act.put, List.setIfInBounds_toArray, List.set_cons_zero, List.set_cons_succ, List.getElem_toArray, List.getElem_cons_succ, List.getElem_cons_zero]
    refine wpAnyH_take (i := 6) (v := ?_) rfl (by kernel_rfl) (by kernel_rfl) (by kernel_rfl) (fun _ _ _ h => h) (Or.inl ⟨by rfl, ?_⟩) (by assumption) ?_
    rotate_left 1
    · (intro w hSw; (try dsimp only at hSw); go_simp; try with_reducible rfl)
    try simp only [Act.put, List.setIfInBounds_toArray, List.set_cons_zero, List.set_cons_succ, List.getElem_toArray, List.getElem_cons_succ, List.getElem_cons_zero]
    refine wpAnyH_take (i := 7) (v := ?_) rfl (by kernel_rfl) (by kernel_rfl) (by kernel_rfl) (fun _ _ _ h => h) (Or.inl ⟨by rfl, ?_⟩) (by assumption) ?_
    rotate_left 1
    · (intro w hSw; (try dsimp only at hSw); go_simp; try with_reducible rfl)
    try simp only [Act.put, List.setIfInBounds_toArray, List.set_cons_zero, List.set_cons_succ, List.getElem_toArray, List.getElem_cons_succ, List.getElem_cons_zero]
    refine wpAnyH_take (i := 8) (v := ?_) rfl (by kernel_rfl) (by kernel_rfl) (by kernel_rfl) (fun _ _ _ h => h) (Or.inl ⟨by rfl, ?_⟩) (by assumption) ?_
    rotate_left 1
    · (intro w hSw; (try dsimp only at hSw); go_simp; try with_reducible rfl)
    try simp only [Act.put, List.setIfInBounds_toArray, List.set_cons_zero, List.set_cons_succ, List.getElem_toArray, List.getElem_cons_succ, List.getElem_cons_zero]
    refine wpAnyH_ready (rs := [9]) (by kernel_rfl) (by simp) (AllReadyH.cons rfl (fun K hK => ?_) AllReadyH.nil)
    go_simp
    refine (refSameNode_any Q Q pa qa pc qc _ (HG1.out _ KW1.out) (HG2.out _ KW1.out)).mono ?_
    rintro e v2 ⟨rfl, hv2⟩
    rw [sameN_refl]
    have KW2 := Lib.hid (KW1.out.trans hv2)
    clear hv2
    try go_wp2_with fail
    refine hK.out _ _ ?_ (fun hS => ?_)
    · exact HS.out _ KW2.out
    clear hK K
    try simp only [Act.put, List.setIfInBounds_toArray, List.set_cons_zero, List.set_cons_succ, List.getElem_toArray, List.getElem_cons_succ, List.getElem_cons_zero]
    refine wpAnyH_take (i := 10) (v := ?_) rfl (by kernel_rfl) (by kernel_rfl) (by kernel_rfl) (fun _ _ _ h => h) (Or.inl ⟨by rfl, ?_⟩) (by assumption) ?_
    rotate_left 1
    · (intro w hSw; (try dsimp only at hSw); go_simp; try with_reducible rfl)
    try simp only [Act.put, List.setIfInBounds_toArray, List.set_cons_zero, List.set_cons_succ, List.getElem_toArray, List.getElem_cons_succ, List.getElem_cons_zero]
    refine wpAnyH_take (i := 11) (v := ?_) rfl (by kernel_rfl) (by kernel_rfl) (by kernel_rfl) (fun _ _ _ h => h) (Or.inl ⟨by rfl, ?_⟩) (by assumption) ?_
    rotate_left 1
    · (intro w hSw; (try dsimp only at hSw); go_simp; try with_reducible rfl)
    try simp only [Act.put, List.setIfInBounds_toArray, List.set_cons_zero, List.set_cons_succ, List.getElem_toArray, List.getElem_cons_succ, List.getElem_cons_zero]
    refine wpAnyH_take (i := 12) (v := ?_) rfl (by kernel_rfl) (by kernel_rfl) (by kernel_rfl) (fun _ _ _ h => h) (Or.inl ⟨by rfl, ?_⟩) (by assumption) ?_
    rotate_left 1
    · (intro w hSw; (try dsimp only at hSw); go_simp; try with_reducible rfl)
    try simp only [Act.put, List.setIfInBounds_toArray, List.set_cons_zero, List.set_cons_succ, List.getElem_toArray, List.getElem_cons_succ, List.getElem_cons_zero]
    refine wpAnyH_take (i := 13) (v := ?_) rfl (by kernel_rfl) (by kernel_rfl) (by kernel_rfl) (fun _ _ _ h => h) (Or.inl ⟨by rfl, ?_⟩) (by assumption) ?_
    rotate_left 1
    · (intro w hSw; (try dsimp only at hSw); go_simp; try with_reducible rfl)
    try simp only [Act.put, List.setIfInBounds_toArray, List.set_cons_zero, List.set_cons_succ, List.getElem_toArray, List.getElem_cons_succ, List.getElem_cons_zero]
    refine wpAnyH_take (i := 14) (v := ?_) rfl (by kernel_rfl) (by kernel_rfl) (by kernel_rfl) (fun _ _ _ h => h) (Or.inl ⟨by rfl, ?_⟩) (by assumption) ?_
    rotate_left 1
    · (intro w hSw; (try dsimp only at hSw); go_simp; try with_reducible rfl)
    try simp only [Act.put, List.setIfInBounds_toArray, List.set_cons_zero, List.set_cons_succ, List.getElem_toArray, List.getElem_cons_succ, List.getElem_cons_zero]
    refine wpAnyH_take (i := 15) (v := ?_) rfl (by kernel_rfl) (by kernel_rfl) (by kernel_rfl) (fun _ _ _ h => h) (Or.inl ⟨by rfl, ?_⟩) (by assumption) ?_
    rotate_left 1
    · (intro w hSw; (try dsimp only at hSw); go_simp; try with_reducible rfl)
    try simp only [Act.put, List.setIfInBounds_toArray, List.set_cons_zero, List.set_cons_succ, List.getElem_toArray, List.getElem_cons_succ, List.getElem_cons_zero]
    refine wpAnyH_take (i := 16) (v := ?_) rfl (by kernel_rfl) (by kernel_rfl) (by kernel_rfl) (fun _ _ _ h => h) (Or.inl ⟨by rfl, ?_⟩) (by assumption) ?_
    rotate_left 1
    · (intro w hSw; (try dsimp only at hSw); go_simp; try with_reducible rfl)
    try simp only [Act.put, List.setIfInBounds_toArray, List.set_cons_zero, List.set_cons_succ, List.getElem_toArray, List.getElem_cons_succ, List.getElem_cons_zero]
    refine wpAnyH_take (i := 17) (v := ?_) rfl (by kernel_rfl) (by kernel_rfl) (by kernel_rfl) (fun _ _ _ h => h) (Or.inl ⟨by rfl, ?_⟩) (by assumption) ?_
    rotate_left 1
    · (intro w hSw; (try dsimp only at hSw); go_simp; try with_reducible rfl)
    try simp only [Act.put, List.setIfInBounds_toArray, List.set_cons_zero, List.set_cons_succ, List.getElem_toArray, List.getElem_cons_succ, List.getElem_cons_zero]
    refine wpAnyH_take (i := 18) (v := ?_) rfl (by kernel_rfl) (by kernel_rfl) (by kernel_rfl) (fun _ _ _ h => h) (Or.inl ⟨by rfl, ?_⟩) (by assumption) ?_
    rotate_left 1
    · (intro w hSw; (try dsimp only at hSw); go_simp; try with_reducible rfl)
    try simp only [Act.put, List.setIfInBounds_toArray, List.set_cons_zero, List.set_cons_succ, List.getElem_toArray, List.getElem_cons_succ, List.getElem_cons_zero]
    refine wpAnyH_ready (rs := [19]) (by kernel_rfl) (by simp) (AllReadyH.cons rfl (fun K hK => ?_) AllReadyH.nil)
    go_simp
    refine (refSameNode_any T T ua va uc vc _ (HG3.out _ KW2.out) (HG4.out _ KW2.out)).mono ?_
    rintro e v3 ⟨rfl, hv3⟩
    rw [sameN_refl]
    have KW3 := Lib.hid (KW2.out.trans hv3)
    clear hv3
    try go_wp2_with fail
    refine hK.out _ _ ?_ (fun hS => ?_)
    · exact HS.out _ KW3.out
    clear hK K
    try simp only [Act.put, List.setIfInBounds_toArray, List.set_cons_zero, List.set_cons_succ, List.getElem_toArray, List.getElem_cons_succ, List.getElem_cons_zero]
    refine wpAnyH_take (i := 20) (v := ?_) rfl (by kernel_rfl) (by kernel_rfl) (by kernel_rfl) (fun _ _ _ h => h) (Or.inl ⟨by rfl, ?_⟩) (by assumption) ?_
    rotate_left 1
    · (intro w hSw; (try dsimp only at hSw); go_simp; try with_reducible rfl)
    try simp only [Act.put, List.setIfInBounds_toArray, List.set_cons_zero, List.set_cons_succ, List.getElem_toArray, List.getElem_cons_succ, List.getElem_cons_zero]
    refine wpAnyH_take (i := 21) (v := ?_) rfl (by kernel_rfl) (by kernel_rfl) (by kernel_rfl) (fun _ _ _ h => h) (Or.inl ⟨by rfl, ?_⟩) (by assumption) ?_
    rotate_left 1
    · (intro w hSw; (try dsimp only at hSw); go_simp; try with_reducible rfl)
    try simp only [Act.put, List.setIfInBounds_toArray, List.set_cons_zero, List.set_cons_succ, List.getElem_toArray, List.getElem_cons_succ, List.getElem_cons_zero]
    refine wpAnyH_take (i := 22) (v := ?_) rfl (by kernel_rfl) (by kernel_rfl) (by kernel_rfl) (fun _ _ _ h => h) (Or.inl ⟨by rfl, ?_⟩) (by assumption) ?_
    rotate_left 1
    · (intro w hSw; (try dsimp only at hSw); go_simp; try with_reducible rfl)
    try simp only [Act.put, List.setIfInBounds_toArray, List.set_cons_zero, List.set_cons_succ, List.getElem_toArray, List.getElem_cons_succ, List.getElem_cons_zero]
    refine wpAnyH_take (i := 23) (v := ?_) rfl (by kernel_rfl) (by kernel_rfl) (by kernel_rfl) (fun _ _ _ h => h) (Or.inl ⟨by rfl, ?_⟩) (by assumption) ?_
    rotate_left 1
    · (intro w hSw; (try dsimp only at hSw); go_simp; try with_reducible rfl)
    try simp only [Act.put, List.setIfInBounds_toArray, List.set_cons_zero, List.set_cons_succ, List.getElem_toArray, List.getElem_cons_succ, List.getElem_cons_zero]
    refine wpAnyH_take (i := 24) (v := ?_) rfl (by kernel_rfl) (by kernel_rfl) (by kernel_rfl) (fun _ _ _ h => h) (Or.inl ⟨by rfl, ?_⟩) (by assumption) ?_
    rotate_left 1
    · (intro w hSw; (try dsimp only at hSw); go_simp; try with_reducible rfl)
    try simp only [Act.put, List.setIfInBounds_toArray, List.set_cons_zero, List.set_cons_succ, List.getElem_toArray, List.getElem_cons_succ, List.getElem_cons_zero]
    refine wpAnyH_take (i := 25) (v := undef) rfl (by kernel_rfl) (by kernel_rfl) (by kernel_rfl) (fun _ _ _ h => h) (Or.inr ⟨by rfl, rfl⟩) (by assumption) ?_
    try simp only [Act.put, List.setIfInBounds_toArray, List.set_cons_zero, List.set_cons_succ, List.getElem_toArray, List.getElem_cons_succ, List.getElem_cons_zero]
    refine wpAnyH_take (i := 27) (v := undef) rfl (by kernel_rfl) (by kernel_rfl) (by kernel_rfl) (fun _ _ _ h => h) (Or.inr ⟨by rfl, rfl⟩) (by assumption) ?_
    try simp only [Act.put, List.setIfInBounds_toArray, List.set_cons_zero, List.set_cons_succ, List.getElem_toArray, List.getElem_cons_succ, List.getElem_cons_zero]
    refine wpAnyH_take (i := 28) (v := undef) rfl (by kernel_rfl) (by kernel_rfl) (by kernel_rfl) (fun _ _ _ h => h) (Or.inr ⟨by rfl, rfl⟩) (by assumption) ?_
    try simp only [Act.put, List.setIfInBounds_toArray, List.set_cons_zero, List.set_cons_succ, List.getElem_toArray, List.getElem_cons_succ, List.getElem_cons_zero]
    refine wpAnyH_take (i := 29) (v := undef) rfl (by kernel_rfl) (by kernel_rfl) (by kernel_rfl) (fun _ _ _ h => h) (Or.inr ⟨by rfl, rfl⟩) (by assumption) ?_
    try simp only [Act.put, List.setIfInBounds_toArray, List.set_cons_zero, List.set_cons_succ, List.getElem_toArray, List.getElem_cons_succ, List.getElem_cons_zero]
    refine wpAnyH_take (i := 30) (v := undef) rfl (by kernel_rfl) (by kernel_rfl) (by kernel_rfl) (fun _ _ _ h => h) (Or.inr ⟨by rfl, rfl⟩) (by assumption) ?_
    try simp only [Act.put, List.setIfInBounds_toArray, List.set_cons_zero, List.set_cons_succ, List.getElem_toArray, List.getElem_cons_succ, List.getElem_cons_zero]
    refine wpAnyH_take (i := 31) (v := undef) rfl (by kernel_rfl) (by kernel_rfl) (by kernel_rfl) (fun _ _ _ h => h) (Or.inr ⟨by rfl, rfl⟩) (by assumption) ?_
    try simp only [Act.put, List.setIfInBounds_toArray, List.set_cons_zero, List.set_cons_succ, List.getElem_toArray, List.getElem_cons_succ, List.getElem_cons_zero]
    refine wpAnyH_take (i := 26) (v := undef) rfl (by kernel_rfl) (by kernel_rfl) (by kernel_rfl) (fun _ _ _ h => h) (Or.inr ⟨by rfl, rfl⟩) (by assumption) ?_
    try simp only [Act.put, List.setIfInBounds_toArray, List.set_cons_zero, List.set_cons_succ, List.getElem_toArray, List.getElem_cons_succ, List.getElem_cons_zero]
    refine wpAnyH_take (i := 32) (v := undef) rfl (by kernel_rfl) (by kernel_rfl) (by kernel_rfl) (fun _ _ _ h => h) (Or.inr ⟨by rfl, rfl⟩) (by assumption) ?_
    try simp only [Act.put, List.setIfInBounds_toArray, List.set_cons_zero, List.set_cons_succ, List.getElem_toArray, List.getElem_cons_succ, List.getElem_cons_zero]
    refine wpAnyH_take (i := 33) (v := ?_) rfl (by kernel_rfl) (by kernel_rfl) (by kernel_rfl) (fun _ _ _ h => h) (Or.inl ⟨by rfl, ?_⟩) (by assumption) ?_
    rotate_left 1
    · (intro w hSw; (try dsimp only at hSw); go_simp; try with_reducible rfl)
    try simp only [Act.put, List.setIfInBounds_toArray, List.set_cons_zero, List.set_cons_succ, List.getElem_toArray, List.getElem_cons_succ, List.getElem_cons_zero]
    refine wpAnyH_take (i := 34) (v := ?_) rfl (by kernel_rfl) (by kernel_rfl) (by kernel_rfl) (fun _ _ _ h => h) (Or.inl ⟨by rfl, ?_⟩) (by assumption) ?_
    rotate_left 1
    · (intro w hSw; (try dsimp only at hSw); go_simp; try with_reducible rfl)
    try simp only [Act.put, List.setIfInBounds_toArray, List.set_cons_zero, List.set_cons_succ, List.getElem_toArray, List.getElem_cons_succ, List.getElem_cons_zero]
    refine wpAnyH_take (i := 35) (v := ?_) rfl (by kernel_rfl) (by kernel_rfl) (by kernel_rfl) (fun _ _ _ h => h) (Or.inl ⟨by rfl, ?_⟩) (by assumption) ?_
    rotate_left 1
    · (intro w hSw; (try dsimp only at hSw); go_simp; try with_reducible rfl)
    try simp only [Act.put, List.setIfInBounds_toArray, List.set_cons_zero, List.set_cons_succ, List.getElem_toArray, List.getElem_cons_succ, List.getElem_cons_zero]
    refine wpAnyH_done (by kernel_rfl) ?_ _
    clear hS HS HG1 HG2 HG3 HG4 HG5
    go_wp2
    go_ret
    exact ⟨rfl, HKj.out.trans KW3.out⟩
  | true =>
    refine wp_region_held_drew (S := fun w' => w'.cell? ⟨np, 0, none⟩ = some (.int .i64 Q.kind) ∧ w'.cell? ⟨np, 1, none⟩ = some (.int .i64 Q.mode) ∧ w'.cell? ⟨np, 2, none⟩ = some (.float .f64 Q.time) ∧ w'.cell? ⟨np, 3, none⟩ = some (.slice pa Q.bs.length pc) ∧ w'.cell? ⟨nq, 0, none⟩ = some (.int .i64 Q.kind) ∧ w'.cell? ⟨nq, 1, none⟩ = some (.int .i64 Q.mode) ∧ w'.cell? ⟨nq, 2, none⟩ = some (.float .f64 Q.time) ∧ w'.cell? ⟨nq, 3, none⟩ = some (.slice qa Q.bs.length qc) ∧ w'.cell? ⟨nt, 0, none⟩ = some (.int .i64 T.kind) ∧ w'.cell? ⟨nt, 1, none⟩ = some (.int .i64 T.mode) ∧ w'.cell? ⟨nt, 2, none⟩ = some (.float .f64 T.time) ∧ w'.cell? ⟨nt, 3, none⟩ = some (.slice ua T.bs.length uc) ∧ w'.cell? ⟨nu, 0, none⟩ = some (.int .i64 T.kind) ∧ w'.cell? ⟨nu, 1, none⟩ = some (.int .i64 T.mode) ∧ w'.cell? ⟨nu, 2, none⟩ = some (.float .f64 T.time) ∧ w'.cell? ⟨nu, 3, none⟩ = some (.slice va T.bs.length vc) ∧ w'.cell? ⟨pr, 0, none⟩ = some (.slice ba rs.length bc)) (by kernel_rfl) (HS.out _ (Kp.refl (fun _ => False) wj).drew) (fun hS => ?_)
    refine wpAnyH_ready (rs := [0]) (by kernel_rfl) (by simp) (AllReadyH.cons rfl (fun K hK => ?_) AllReadyH.nil)
    go_simp
    refine (known10_any _).mono ?_
    rintro e v1 ⟨rfl, hv1⟩
    have KW1 := Lib.hid (((Kp.refl (fun _ => False) wj).drew).trans hv1)
    clear hv1
    try go_wp2_with fail
    refine hK.out _ _ ?_ (fun hS => ?_)
    · exact HS.out _ KW1.out
    clear hK K
    try simp only [Act.put, List.setIfInBounds_toArray, List.set_cons_zero, List.set_cons_succ, List.getElem_toArray, List.getElem_cons_succ, List.getElem_cons_zero]
    refine wpAnyH_take (i := 1) (v := ?_) rfl (by kernel_rfl) (by kernel_rfl) (by kernel_rfl) (fun _ _ _ h => h) (Or.inl ⟨by rfl, ?_⟩) (by assumption) ?_
    rotate_left 1
    · (intro w hSw; (try dsimp only at hSw); go_simp; try with_reducible rfl)
    try simp only [Act.put, List.setIfInBounds_toArray, List.set_cons_zero, List.set_cons_succ, List.getElem_toArray, List.getElem_cons_succ, List.getElem_cons_zero]
    refine wpAnyH_take (i := 2) (v := ?_) rfl (by kernel_rfl) (by kernel_rfl) (by kernel_rfl) (fun _ _ _ h => h) (Or.inl ⟨by rfl, ?_⟩) (by assumption) ?_
    rotate_left 1
    · (intro w hSw; (try dsimp only at hSw); go_simp; try with_reducible rfl)
    try simp only [Act.put, List.setIfInBounds_toArray, List.set_cons_zero, List.set_cons_succ, List.getElem_toArray, List.getElem_cons_succ, List.getElem_cons_zero]
    refine wpAnyH_take (i := 3) (v := ?_) rfl (by kernel_rfl) (by kernel_rfl) (by kernel_rfl) (fun _ _ _ h => h) (Or.inl ⟨by rfl, ?_⟩) (by assumption) ?_
    rotate_left 1
    · (intro w hSw; (try dsimp only at hSw); go_simp; try with_reducible rfl)
    try simp only [Act.put, List.setIfInBounds_toArray, List.set_cons_zero, List.set_cons_succ, List.getElem_toArray, List.getElem_cons_succ, List.getElem_cons_zero]
    refine wpAnyH_take (i := 4) (v := ?_) rfl (by kernel_rfl) (by kernel_rfl) (by kernel_rfl) (fun _ _ _ h => h) (Or.inl ⟨by rfl, ?_⟩) (by assumption) ?_
    rotate_left 1
    · (intro w hSw; (try dsimp only at hSw); go_simp; try with_reducible rfl)
    try simp only [Act.put, List.setIfInBounds_toArray, List.set_cons_zero, List.set_cons_succ, List.getElem_toArray, List.getElem_cons_succ, List.getElem_cons_zero]
    refine wpAnyH_take (i := 5) (v := ?_) rfl (by kernel_rfl) (by kernel_rfl) (by kernel_rfl) (fun _ _ _ h => h) (Or.inl ⟨by rfl, ?_⟩) (by assumption) ?_
    rotate_left 1
    · (intro w hSw; (try dsimp only at hSw); go_simp; try with_reducible rfl)
    try simp only [Act.put, List.setIfInBounds_toArray, List.set_cons_zero, List.set_cons_succ, List.getElem_toArray, List.getElem_cons_succ, List.getElem_cons_zero]
    refine wpAnyH_take (i := 6) (v := ?_) rfl (by kernel_rfl) (by kernel_rfl) (by kernel_rfl) (fun _ _ _ h => h) (Or.inl ⟨by rfl, ?_⟩) (by assumption) ?_
    rotate_left 1
    · (intro w hSw; (try dsimp only at hSw); go_simp; try with_reducible rfl)
    try simp only [Act.put, List.setIfInBounds_toArray, List.set_cons_zero, List.set_cons_succ, List.getElem_toArray, List.getElem_cons_succ, List.getElem_cons_zero]
    refine wpAnyH_take (i := 7) (v := ?_) rfl (by kernel_rfl) (by kernel_rfl) (by kernel_rfl) (fun _ _ _ h => h) (Or.inl ⟨by rfl, ?_⟩) (by assumption) ?_
    rotate_left 1
    · (intro w hSw; (try dsimp only at hSw); go_simp; try with_reducible rfl)
    try simp only [Act.put, List.setIfInBounds_toArray, List.set_cons_zero, List.set_cons_succ, List.getElem_toArray, List.getElem_cons_succ, List.getElem_cons_zero]
    refine wpAnyH_take (i := 8) (v := ?_) rfl (by kernel_rfl) (by kernel_rfl) (by kernel_rfl) (fun _ _ _ h => h) (Or.inl ⟨by rfl, ?_⟩) (by assumption) ?_
    rotate_left 1
    · (intro w hSw; (try dsimp only at hSw); go_simp; try with_reducible rfl)
    try simp only [Act.put, List.setIfInBounds_toArray, List.set_cons_zero, List.set_cons_succ, List.getElem_toArray, List.getElem_cons_succ, List.getElem_cons_zero]
    refine wpAnyH_ready (rs := [9]) (by kernel_rfl) (by simp) (AllReadyH.cons rfl (fun K hK => ?_) AllReadyH.nil)
    go_simp
    refine (refSameNode_any Q Q pa qa pc qc _ (HG1.out _ KW1.out) (HG2.out _ KW1.out)).mono ?_
    rintro e v2 ⟨rfl, hv2⟩
    rw [sameN_refl]
    have KW2 := Lib.hid (KW1.out.trans hv2)
    clear hv2
    try go_wp2_with fail
    refine hK.out _ _ ?_ (fun hS => ?_)
    · exact HS.out _ KW2.out
    clear hK K
    try simp only [Act.put, List.setIfInBounds_toArray, List.set_cons_zero, List.set_cons_succ, List.getElem_toArray, List.getElem_cons_succ, List.getElem_cons_zero]
    refine wpAnyH_take (i := 10) (v := ?_) rfl (by kernel_rfl) (by kernel_rfl) (by kernel_rfl) (fun _ _ _ h => h) (Or.inl ⟨by rfl, ?_⟩) (by assumption) ?_
    rotate_left 1
    · (intro w hSw; (try dsimp only at hSw); go_simp; try with_reducible rfl)
    try simp only [Act.put, List.setIfInBounds_toArray, List.set_cons_zero, List.set_cons_succ, List.getElem_toArray, List.getElem_cons_succ, List.getElem_cons_zero]
    refine wpAnyH_take (i := 11) (v := ?_) rfl (by kernel_rfl) (by kernel_rfl) (by kernel_rfl) (fun _ _ _ h => h) (Or.inl ⟨by rfl, ?_⟩) (by assumption) ?_
    rotate_left 1
    · (intro w hSw; (try dsimp only at hSw); go_simp; try with_reducible rfl)
    try simp only [Act.put, List.setIfInBounds_toArray, List.set_cons_zero, List.set_cons_succ, List.getElem_toArray, List.getElem_cons_succ, List.getElem_cons_zero]
    refine wpAnyH_take (i := 12) (v := ?_) rfl (by kernel_rfl) (by kernel_rfl) (by kernel_rfl) (fun _ _ _ h => h) (Or.inl ⟨by rfl, ?_⟩) (by assumption) ?_
    rotate_left 1
    · (intro w hSw; (try dsimp only at hSw); go_simp; try with_reducible rfl)
    try simp only [Act.put, List.setIfInBounds_toArray, List.set_cons_zero, List.set_cons_succ, List.getElem_toArray, List.getElem_cons_succ, List.getElem_cons_zero]
    refine wpAnyH_take (i := 13) (v := ?_) rfl (by kernel_rfl) (by kernel_rfl) (by kernel_rfl) (fun _ _ _ h => h) (Or.inl ⟨by rfl, ?_⟩) (by assumption) ?_
    rotate_left 1
    · (intro w hSw; (try dsimp only at hSw); go_simp; try with_reducible rfl)
    try simp only [Act.put, List.setIfInBounds_toArray, List.set_cons_zero, List.set_cons_succ, List.getElem_toArray, List.getElem_cons_succ, List.getElem_cons_zero]
    refine wpAnyH_take (i := 14) (v := ?_) rfl (by kernel_rfl) (by kernel_rfl) (by kernel_rfl) (fun _ _ _ h => h) (Or.inl ⟨by rfl, ?_⟩) (by assumption) ?_
    rotate_left 1
    · (intro w hSw; (try dsimp only at hSw); go_simp; try with_reducible rfl)
    try simp only [Act.put, List.setIfInBounds_toArray, List.set_cons_zero, List.set_cons_succ, List.getElem_toArray, List.getElem_cons_succ, List.getElem_cons_zero]
    refine wpAnyH_take (i := 15) (v := ?_) rfl (by kernel_rfl) (by kernel_rfl) (by kernel_rfl) (fun _ _ _ h => h) (Or.inl ⟨by rfl, ?_⟩) (by assumption) ?_
    rotate_left 1
    · (intro w hSw; (try dsimp only at hSw); go_simp; try with_reducible rfl)
    try simp only [Act.put, List.setIfInBounds_toArray, List.set_cons_zero, List.set_cons_succ, List.getElem_toArray, List.getElem_cons_succ, List.getElem_cons_zero]
    refine wpAnyH_take (i := 16) (v := ?_) rfl (by kernel_rfl) (by kernel_rfl) (by kernel_rfl) (fun _ _ _ h => h) (Or.inl ⟨by rfl, ?_⟩) (by assumption) ?_
    rotate_left 1
    · (intro w hSw; (try dsimp only at hSw); go_simp; try with_reducible rfl)
    try simp only [Act.put, List.setIfInBounds_toArray, List.set_cons_zero, List.set_cons_succ, List.getElem_toArray, List.getElem_cons_succ, List.getElem_cons_zero]
    refine wpAnyH_take (i := 17) (v := ?_) rfl (by kernel_rfl) (by kernel_rfl) (by kernel_rfl) (fun _ _ _ h => h) (Or.inl ⟨by rfl, ?_⟩) (by assumption) ?_
    rotate_left 1
    · (intro w hSw; (try dsimp only at hSw); go_simp; try with_reducible rfl)
    try simp only [Act.put, List.setIfInBounds_toArray, List.set_cons_zero, List.set_cons_succ, List.getElem_toArray, List.getElem_cons_succ, List.getElem_cons_zero]
    refine wpAnyH_take (i := 18) (v := ?_) rfl (by kernel_rfl) (by kernel_rfl) (by kernel_rfl) (fun _ _ _ h => h) (Or.inl ⟨by rfl, ?_⟩) (by assumption) ?_
    rotate_left 1
    · (intro w hSw; (try dsimp only at hSw); go_simp; try with_reducible rfl)
    try simp only [Act.put, List.setIfInBounds_toArray, List.set_cons_zero, List.set_cons_succ, List.getElem_toArray, List.getElem_cons_succ, List.getElem_cons_zero]
    refine wpAnyH_ready (rs := [19]) (by kernel_rfl) (by simp) (AllReadyH.cons rfl (fun K hK => ?_) AllReadyH.nil)
    go_simp
    refine (refSameNode_any T T ua va uc vc _ (HG3.out _ KW2.out) (HG4.out _ KW2.out)).mono ?_
    rintro e v3 ⟨rfl, hv3⟩
    rw [sameN_refl]
    have KW3 := Lib.hid (KW2.out.trans hv3)
    clear hv3
    try go_wp2_with fail
    refine hK.out _ _ ?_ (fun hS => ?_)
    · exact HS.out _ KW3.out
    clear hK K
    try simp only [Act.put, List.setIfInBounds_toArray, List.set_cons_zero, List.set_cons_succ, List.getElem_toArray, List.getElem_cons_succ, List.getElem_cons_zero]
    refine wpAnyH_take (i := 20) (v := ?_) rfl (by kernel_rfl) (by kernel_rfl) (by kernel_rfl) (fun _ _ _ h => h) (Or.inl ⟨by rfl, ?_⟩) (by assumption) ?_
    rotate_left 1
    · (intro w hSw; (try dsimp only at hSw); go_simp; try with_reducible rfl)
    try simp only [Act.put, List.setIfInBounds_toArray, List.set_cons_zero, List.set_cons_succ, List.getElem_toArray, List.getElem_cons_succ, List.getElem_cons_zero]
    refine wpAnyH_take (i := 21) (v := ?_) rfl (by kernel_rfl) (by kernel_rfl) (by kernel_rfl) (fun _ _ _ h => h) (Or.inl ⟨by rfl, ?_⟩) (by assumption) ?_
    rotate_left 1
    · (intro w hSw; (try dsimp only at hSw); go_simp; try with_reducible rfl)
    try simp only [Act.put, List.setIfInBounds_toArray, List.set_cons_zero, List.set_cons_succ, List.getElem_toArray, List.getElem_cons_succ, List.getElem_cons_zero]
    refine wpAnyH_take (i := 22) (v := ?_) rfl (by kernel_rfl) (by kernel_rfl) (by kernel_rfl) (fun _ _ _ h => h) (Or.inl ⟨by rfl, ?_⟩) (by assumption) ?_
    rotate_left 1
    · (intro w hSw; (try dsimp only at hSw); go_simp; try with_reducible rfl)
    try simp only [Act.put, List.setIfInBounds_toArray, List.set_cons_zero, List.set_cons_succ, List.getElem_toArray, List.getElem_cons_succ, List.getElem_cons_zero]
    refine wpAnyH_take (i := 23) (v := ?_) rfl (by kernel_rfl) (by kernel_rfl) (by kernel_rfl) (fun _ _ _ h => h) (Or.inl ⟨by rfl, ?_⟩) (by assumption) ?_
    rotate_left 1
    · (intro w hSw; (try dsimp only at hSw); go_simp; try with_reducible rfl)
    try simp only [Act.put, List.setIfInBounds_toArray, List.set_cons_zero, List.set_cons_succ, List.getElem_toArray, List.getElem_cons_succ, List.getElem_cons_zero]
    refine wpAnyH_take (i := 24) (v := ?_) rfl (by kernel_rfl) (by kernel_rfl) (by kernel_rfl) (fun _ _ _ h => h) (Or.inl ⟨by rfl, ?_⟩) (by assumption) ?_
    rotate_left 1
    · (intro w hSw; (try dsimp only at hSw); go_simp; try with_reducible rfl)
    try simp only [Act.put, List.setIfInBounds_toArray, List.set_cons_zero, List.set_cons_succ, List.getElem_toArray, List.getElem_cons_succ, List.getElem_cons_zero]
    refine wpAnyH_take (i := 25) (v := ?_) rfl (by kernel_rfl) (by kernel_rfl) (by kernel_rfl) (fun _ _ _ h => h) (Or.inl ⟨by rfl, ?_⟩) (by assumption) ?_
    rotate_left 1
    · (intro w hSw; (try dsimp only at hSw); go_simp; try with_reducible rfl)
    try simp only [Act.put, List.setIfInBounds_toArray, List.set_cons_zero, List.set_cons_succ, List.getElem_toArray, List.getElem_cons_succ, List.getElem_cons_zero]
    refine wpAnyH_take (i := 27) (v := ?_) rfl (by kernel_rfl) (by kernel_rfl) (by kernel_rfl) (fun _ _ _ h => h) (Or.inl ⟨by rfl, ?_⟩) (by assumption) ?_
    rotate_left 1
    · (intro w hSw; (try dsimp only at hSw); go_simp; try with_reducible rfl)
    try simp only [Act.put, List.setIfInBounds_toArray, List.set_cons_zero, List.set_cons_succ, List.getElem_toArray, List.getElem_cons_succ, List.getElem_cons_zero]
    refine wpAnyH_take (i := 28) (v := ?_) rfl (by kernel_rfl) (by kernel_rfl) (by kernel_rfl) (fun _ _ _ h => h) (Or.inl ⟨by rfl, ?_⟩) (by assumption) ?_
    rotate_left 1
    · (intro w hSw; (try dsimp only at hSw); go_simp; try with_reducible rfl)
    try simp only [Act.put, List.setIfInBounds_toArray, List.set_cons_zero, List.set_cons_succ, List.getElem_toArray, List.getElem_cons_succ, List.getElem_cons_zero]
    refine wpAnyH_take (i := 29) (v := ?_) rfl (by kernel_rfl) (by kernel_rfl) (by kernel_rfl) (fun _ _ _ h => h) (Or.inl ⟨by rfl, ?_⟩) (by assumption) ?_
    rotate_left 1
    · (intro w hSw; (try dsimp only at hSw); go_simp; try with_reducible rfl)
    try simp only [Act.put, List.setIfInBounds_toArray, List.set_cons_zero, List.set_cons_succ, List.getElem_toArray, List.getElem_cons_succ, List.getElem_cons_zero]
    refine wpAnyH_take (i := 30) (v := ?_) rfl (by kernel_rfl) (by kernel_rfl) (by kernel_rfl) (fun _ _ _ h => h) (Or.inl ⟨by rfl, ?_⟩) (by assumption) ?_
    rotate_left 1
    · (intro w hSw; (try dsimp only at hSw); go_simp; try with_reducible rfl)
    try simp only [Act.put, List.setIfInBounds_toArray, List.set_cons_zero, List.set_cons_succ, List.getElem_toArray, List.getElem_cons_succ, List.getElem_cons_zero]
    refine wpAnyH_take (i := 31) (v := ?_) rfl (by kernel_rfl) (by kernel_rfl) (by kernel_rfl) (fun _ _ _ h => h) (Or.inl ⟨by rfl, ?_⟩) (by assumption) ?_
    rotate_left 1
    · (intro w hSw; (try dsimp only at hSw); go_simp; try with_reducible rfl)
    try simp only [Act.put, List.setIfInBounds_toArray, List.set_cons_zero, List.set_cons_succ, List.getElem_toArray, List.getElem_cons_succ, List.getElem_cons_zero]
    refine wpAnyH_ready (rs := [26]) (by kernel_rfl) (by simp) (AllReadyH.cons rfl (fun K hK => ?_) AllReadyH.nil)
    go_simp
    refine (Left_any rp row2 rs lk _ (HG5.out _ KW3.out)).mono ?_
    rintro e v4 ⟨rfl, rfl⟩
    try go_wp2_with fail
    refine hK.out _ _ ?_ (fun hS => ?_)
    · exact HS.out _ KW3.out
    clear hK K
    try simp only [Act.put, List.setIfInBounds_toArray, List.set_cons_zero, List.set_cons_succ, List.getElem_toArray, List.getElem_cons_succ, List.getElem_cons_zero]
    refine wpAnyH_take (i := 32) (v := ?_) rfl (by kernel_rfl) (by kernel_rfl) (by kernel_rfl) (fun _ _ _ h => h) (Or.inl ⟨by rfl, ?_⟩) (by assumption) ?_
    rotate_left 1
    · (intro w hSw; (try dsimp only at hSw); go_simp; try with_reducible rfl)
    try simp only [Act.put, List.setIfInBounds_toArray, List.set_cons_zero, List.set_cons_succ, List.getElem_toArray, List.getElem_cons_succ, List.getElem_cons_zero]
    refine wpAnyH_take (i := 33) (v := ?_) rfl (by kernel_rfl) (by kernel_rfl) (by kernel_rfl) (fun _ _ _ h => h) (Or.inl ⟨by rfl, ?_⟩) (by assumption) ?_
    rotate_left 1
    · (intro w hSw; (try dsimp only at hSw); go_simp; try with_reducible rfl)
    try simp only [Act.put, List.setIfInBounds_toArray, List.set_cons_zero, List.set_cons_succ, List.getElem_toArray, List.getElem_cons_succ, List.getElem_cons_zero]
    refine wpAnyH_take (i := 34) (v := ?_) rfl (by kernel_rfl) (by kernel_rfl) (by kernel_rfl) (fun _ _ _ h => h) (Or.inl ⟨by rfl, ?_⟩) (by assumption) ?_
    rotate_left 1
    · (intro w hSw; (try dsimp only at hSw); go_simp; try with_reducible rfl)
    try simp only [Act.put, List.setIfInBounds_toArray, List.set_cons_zero, List.set_cons_succ, List.getElem_toArray, List.getElem_cons_succ, List.getElem_cons_zero]
    refine wpAnyH_take (i := 35) (v := ?_) rfl (by kernel_rfl) (by kernel_rfl) (by kernel_rfl) (fun _ _ _ h => h) (Or.inl ⟨by rfl, ?_⟩) (by assumption) ?_
    rotate_left 1
    · (intro w hSw; (try dsimp only at hSw); go_simp; try with_reducible rfl)
    try simp only [Act.put, List.setIfInBounds_toArray, List.set_cons_zero, List.set_cons_succ, List.getElem_toArray, List.getElem_cons_succ, List.getElem_cons_zero]
    refine wpAnyH_done (by kernel_rfl) ?_ _
    clear hS HS HG1 HG2 HG3 HG4 HG5
    go_wp2
    go_ret
    exact ⟨rfl, HKj.out.trans KW3.out⟩
end Go.Proofs.Ytgpidbdgodgefaa
