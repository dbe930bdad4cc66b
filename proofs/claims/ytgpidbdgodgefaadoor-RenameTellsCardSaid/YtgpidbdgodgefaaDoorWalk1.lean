/- The walker goes down: its contract. Conditions: as the theorem names them. -/
import Derived.Test.YtgpidbdgodgefaaDoorWalk0
import Derived.Deep.RegionHeld3
namespace Go.Proofs.YtgpidbdgodgefaaDoor
open Go.RowKit Go.Deep

/-- Down by a name. -/
def downT (l : List ItemV) (follow : Bool) (s : WSt) (p : List UInt8) : WSt × Bool × Int :=
  if isDirT l s.at_ = false then (s, false, 9)
  else if 120 < (joinB s.at_ p).length then (s, false, 12)
  else match getT l (joinB s.at_ p) with
    | none => if 0 < s.parts.length then (s, false, 6) else (⟨joinB s.at_ p, s.parts, s.hops⟩, false, 0)
    | some x => if x.kind = 3 ∧ (0 < s.parts.length ∨ follow = true) then ((thrT s x.bs).1, true, (thrT s x.bs).2) else (⟨joinB s.at_ p, s.parts, s.hops⟩, true, 0)

set_option maxHeartbeats 20000000 in
set_option maxRecDepth 100000 in
theorem down_any (p : Nat) (ta : Option Addr) (tc : Nat) (l : List ItemV) (s : WSt) (q : List UInt8) (follow : Bool) (m : Int) (w : World) (hp : p ≠ 0) (hm : w.cell? ⟨0, 0, none⟩ = some (.int .i64 m)) (hT : TreeAt w ta l) (hl : l.length ≤ 4611686018427387903) (hW : WAt w p (.slice ta l.length tc) s)
    (hpl : s.parts.length ≤ 100000) (hh : s.hops ≤ 1000) (hat : s.at_.length ≤ 1000000) (hq : q.length ≤ 1000000) :
    Calls Tryd.prog 60 #[.pointer (some ⟨p, 0, none⟩), .string ⟨q.toArray⟩, .bool follow] w fun e w' => e = .returned (.tuple #[.bool (downT l follow s q).2.1, .int .i64 (downT l follow s q).2.2]) ∧ WAt w' p (.slice ta l.length tc) (downT l follow s q).1 ∧ Kp (fun b => b = p) w w' := by
  obtain ⟨at_, parts, hops⟩ := s
  have HWW := Lib.hid hW
  obtain ⟨pa, pc, h1, h2, h3⟩ := hW
  dsimp only at h1 h2 h3 hpl hh hat
  have HR := Lib.hid (show downT l follow ⟨at_, parts, hops⟩ q = (if isDirT l at_ = false then (⟨at_, parts, hops⟩, false, 9) else if 120 < (joinB at_ q).length then (⟨at_, parts, hops⟩, false, 12)
    else match getT l (joinB at_ q) with
    | none => if 0 < parts.length then (⟨at_, parts, hops⟩, false, 6) else (⟨joinB at_ q, parts, hops⟩, false, 0)
    | some x => if x.kind = 3 ∧ (0 < parts.length ∨ follow = true) then ((thrT ⟨at_, parts, hops⟩ x.bs).1, true, (thrT ⟨at_, parts, hops⟩ x.bs).2) else (⟨joinB at_ q, parts, hops⟩, true, 0)) from rfl)
  have hlt := hp_lt h1
  obtain ⟨⟨p0, p1, p2, p3⟩, ⟨l0, l1, l2, l3⟩, lt3⟩ := cell_fr h1
  have HH := Lib.hid h1
  have HT := Lib.hid hT
  have HM := Lib.hid hm
  have hsf : ∀ (a : Addr) (b : Nat) (m : Mode) (w : World), (store a (.float .f64 b) m).run Tryd.prog w = stored Tryd.prog w a (.float .f64 b) m := fun a b m w => run_store _ w a _ m rfl
  clear h1 h2 h3 hm hT
  go_enter Tryd.func60, Tryd.ntmps60
  go_wp2_with fail
  refine (join_any at_ q w (by omega)).mono ?_
  rintro e w' ⟨rfl, rfl⟩
  go_wp2_with fail
  have HS : Hid (∀ w', Kp (fun _ => False) w w' → (w'.cell? ⟨p, 0, none⟩ = some (.slice ta l.length tc) ∧ w'.cell? ⟨p, 1, none⟩ = some (.string ⟨at_.toArray⟩))) := fun w' k => by
    obtain ⟨a0, a1, _, _⟩ := cell_four (k.hp HH.out id)
    exact ⟨a0, a1⟩
  have hjl : (joinB at_ q).length ≤ 2000001 := by unfold joinB; split <;> (try simp) <;> omega
  clear p0 p1 p2 p3 l0 l1 l2 l3 lt3
  obtain ⟨p0, p1⟩ := HS.out w (Kp.refl _ _)
  refine wp_region_held_drew (S := fun w' => w'.cell? ⟨p, 0, none⟩ = some (.slice ta l.length tc) ∧ w'.cell? ⟨p, 1, none⟩ = some (.string ⟨at_.toArray⟩)) (by kernel_rfl) (⟨p0, p1⟩) (fun hS => ?_)
  refine wpAnyH_take (i := 0) (v := ?_) rfl (by kernel_rfl) (by kernel_rfl) (by kernel_rfl) (fun _ _ _ h => h) (Or.inl ⟨by rfl, ?_⟩) (by assumption) ?_
  rotate_left 1
  · (intro w hSw; (try dsimp only at hSw); go_simp; try with_reducible rfl)
  try simp only [Act.put, List.setIfInBounds_toArray, List.set_cons_zero, List.set_cons_succ, List.getElem_toArray, List.getElem_cons_zero]
  refine wpAnyH_take (i := 1) (v := ?_) rfl (by kernel_rfl) (by kernel_rfl) (by kernel_rfl) (fun _ _ _ h => h) (Or.inl ⟨by rfl, ?_⟩) (by assumption) ?_
  rotate_left 1
  · (intro w hSw; (try dsimp only at hSw); go_simp; try with_reducible rfl)
  try simp only [Act.put, List.setIfInBounds_toArray, List.set_cons_zero, List.set_cons_succ, List.getElem_toArray, List.getElem_cons_succ, List.getElem_cons_zero]
  refine wpAnyH_take (i := 2) (v := ?_) rfl (by kernel_rfl) (by kernel_rfl) (by kernel_rfl) (fun _ _ _ h => h) (Or.inl ⟨by rfl, ?_⟩) (by assumption) ?_
  rotate_left 1
  · (intro w hSw; (try dsimp only at hSw); go_simp; try with_reducible rfl)
  try simp only [Act.put, List.setIfInBounds_toArray, List.set_cons_zero, List.set_cons_succ, List.getElem_toArray, List.getElem_cons_succ, List.getElem_cons_zero]
  refine wpAnyH_take (i := 3) (v := ?_) rfl (by kernel_rfl) (by kernel_rfl) (by kernel_rfl) (fun _ _ _ h => h) (Or.inl ⟨by rfl, ?_⟩) (by assumption) ?_
  rotate_left 1
  · (intro w hSw; (try dsimp only at hSw); go_simp; try with_reducible rfl)
  try simp only [Act.put, List.setIfInBounds_toArray, List.set_cons_zero, List.set_cons_succ, List.getElem_toArray, List.getElem_cons_succ, List.getElem_cons_zero]
  refine wpAnyH_take (i := 4) (v := ?_) rfl (by kernel_rfl) (by kernel_rfl) (by kernel_rfl) (fun _ _ _ h => h) (Or.inl ⟨by rfl, ?_⟩) (by assumption) ?_
  rotate_left 1
  · (intro w hSw; (try dsimp only at hSw); go_simp; try with_reducible rfl)
  try simp only [Act.put, List.setIfInBounds_toArray, List.set_cons_zero, List.set_cons_succ, List.getElem_toArray, List.getElem_cons_succ, List.getElem_cons_zero]
  refine wpAnyH_take (i := 5) (v := ?_) rfl (by kernel_rfl) (by kernel_rfl) (by kernel_rfl) (fun _ _ _ h => h) (Or.inl ⟨by rfl, ?_⟩) (by assumption) ?_
  rotate_left 1
  · (intro w hSw; (try dsimp only at hSw); go_simp; try with_reducible rfl)
  try simp only [Act.put, List.setIfInBounds_toArray, List.set_cons_zero, List.set_cons_succ, List.getElem_toArray, List.getElem_cons_succ, List.getElem_cons_zero]
  refine wpAnyH_take (i := 6) (v := ?_) rfl (by kernel_rfl) (by kernel_rfl) (by kernel_rfl) (fun _ _ _ h => h) (Or.inl ⟨by rfl, ?_⟩) (by assumption) ?_
  rotate_left 1
  · (intro w hSw; (try dsimp only at hSw); go_simp; try with_reducible rfl)
  try simp only [Act.put, List.setIfInBounds_toArray, List.set_cons_zero, List.set_cons_succ, List.getElem_toArray, List.getElem_cons_succ, List.getElem_cons_zero]
  refine wpAnyH_take (i := 7) (v := ?_) rfl (by kernel_rfl) (by kernel_rfl) (by kernel_rfl) (fun _ _ _ h => h) (Or.inl ⟨by rfl, ?_⟩) (by assumption) ?_
  rotate_left 1
  · (intro w hSw; (try dsimp only at hSw); go_simp; try with_reducible rfl)
  try simp only [Act.put, List.setIfInBounds_toArray, List.set_cons_zero, List.set_cons_succ, List.getElem_toArray, List.getElem_cons_succ, List.getElem_cons_zero]
  refine wpAnyH_ready (rs := [8]) (by kernel_rfl) (by simp) (AllReadyH.cons rfl (fun K hK => ?_) AllReadyH.nil)
  go_simp
  refine (isDir_any ta tc l at_ _ (HT.out.keep ((Kp.refl (fun _ => False) w).drew)) hl).mono ?_
  rintro e v1 ⟨rfl, hv1⟩
  have KV1 := Lib.hid (((Kp.refl (fun _ => False) w).drew).trans hv1)
  clear hv1
  try go_wp2_with fail
  refine hK.out _ _ ?_ (fun hS => ?_)
  · exact HS.out _ KV1.out
  clear hK K
  try simp only [Act.put, List.setIfInBounds_toArray, List.set_cons_zero, List.set_cons_succ, List.getElem_toArray, List.getElem_cons_succ, List.getElem_cons_zero]
  refine wpAnyH_take (i := 9) (v := ?_) rfl (by kernel_rfl) (by kernel_rfl) (by kernel_rfl) (fun _ _ _ h => h) (Or.inl ⟨by rfl, ?_⟩) (by assumption) ?_
  rotate_left 1
  · (intro w hSw; (try dsimp only at hSw); go_simp; try with_reducible rfl)
  try simp only [Act.put, List.setIfInBounds_toArray, List.set_cons_zero, List.set_cons_succ, List.getElem_toArray, List.getElem_cons_succ, List.getElem_cons_zero]
  refine wpAnyH_take (i := 10) (v := ?_) rfl (by kernel_rfl) (by kernel_rfl) (by kernel_rfl) (fun _ _ _ h => h) (Or.inl ⟨by rfl, ?_⟩) (by assumption) ?_
  rotate_left 1
  · (intro w hSw; (try dsimp only at hSw); go_simp; try with_reducible rfl)
  try simp only [Act.put, List.setIfInBounds_toArray, List.set_cons_zero, List.set_cons_succ, List.getElem_toArray, List.getElem_cons_succ, List.getElem_cons_zero]
  refine wpAnyH_done (by kernel_rfl) ?_ _

  clear HS hS p0 p1
  have HP1 := Lib.hid (KV1.out.hp HH.out id)
  have WW1 := Lib.hid (HWW.out.keep KV1.out)
  cases hd : isDirT l at_ with
  | false =>
    have HR2 := Lib.hid (show downT l follow ⟨at_, parts, hops⟩ q = (⟨at_, parts, hops⟩, false, 9) from by rw [HR.out, if_pos hd])
    clear HR
    go_wp2
    go_ret2
    rw [HR2.out]
    exact ⟨rfl, WW1.out, KV1.out.mono (fun _ _ h => h.elim)⟩
  | true =>
    have HR2 := Lib.hid (show downT l follow ⟨at_, parts, hops⟩ q = (if 120 < (joinB at_ q).length then (⟨at_, parts, hops⟩, false, 12)
      else match getT l (joinB at_ q) with
      | none => if 0 < parts.length then (⟨at_, parts, hops⟩, false, 6) else (⟨joinB at_ q, parts, hops⟩, false, 0)
      | some x => if x.kind = 3 ∧ (0 < parts.length ∨ follow = true) then ((thrT ⟨at_, parts, hops⟩ x.bs).1, true, (thrT ⟨at_, parts, hops⟩ x.bs).2) else (⟨joinB at_ q, parts, hops⟩, true, 0)) from by rw [HR.out, if_neg (by rw [hd]; decide)])
    clear HR
    generalize joinB at_ q = jq at *
    by_cases h120 : 120 < jq.length
    · have h120' : (jq.length : Int) > 120 := by omega
      have HR3 := Lib.hid (show downT l follow ⟨at_, parts, hops⟩ q = (⟨at_, parts, hops⟩, false, 12) from by rw [HR2.out, if_pos h120])
      clear HR2
      go_wp2
      go_ret2
      rw [HR3.out]
      exact ⟨rfl, WW1.out, KV1.out.mono (fun _ _ h => h.elim)⟩
    · have h120' : ¬ (jq.length : Int) > 120 := by omega
      have HR3 := Lib.hid (HR2.out.trans (if_neg h120))
      clear HR2
      obtain ⟨⟨p0, p1, p2, p3⟩, ⟨l0, l1, l2, l3⟩, lt3⟩ := cell_fr HP1.out
      have hT1 := HT.out.keep KV1.out
      have HC := Lib.hid (get_any ta tc l jq v1 hT1 hl)
      clear hT1
      go_wp2_with fail
      rename_i K1 hK1 K2 hK2
      replace hK1 := Lib.hid hK1
      refine HC.out.mono ?_
      rintro e w2 ⟨n, a, c, rfl, hn, hna, hfa, hk2⟩
      have HK2 := Lib.hid (KV1.out.trans hk2)
      have HP2 := Lib.hid (hk2.hp HP1.out id)
      have WW2 := Lib.hid (WW1.out.keep hk2)
      have HN := Lib.hid hn
      have HFA := Lib.hid hfa
      have HNA := Lib.hid hna
      have hp2 := hp_lt HP2.out
      have HL4 := Lib.hid (hp_new w2 (.cells #[.int .i64 n.kind, .int .i64 n.mode, .float .f64 n.time, .slice a n.bs.length c] 42))
      have HK4 := Lib.hid ((Kp.refl (fun _ => False) w2).alloc (.cells #[.int .i64 n.kind, .int .i64 n.mode, .float .f64 n.time, .slice a n.bs.length c] 42))
      clear hn hfa hna hk2 HC p0 p1 p2 p3 l0 l1 l2 l3
      have HW4 := Lib.hid (WW2.out.keep HK4.out)
      have HP4 := Lib.hid (HK4.out.hp HP2.out id)
      have HK5 := Lib.hid ((HK2.out.trans HK4.out).mono (S' := fun b => b = p) (fun _ _ h => h.elim))
      have HG : Hid (∀ x, getT l jq = some x → n = x.node) := HN
      rw [nodeVal]
      go_wp2_with fail
      have HKF := Lib.hid (HK2.out.trans HK4.out)
      have HSA := Lib.hid (HNA.out.sl.keep HK4.out (fun _ _ => id))
      have HLB := Lib.hid HNA.out.len
      have HFB := Lib.hid (show ∀ b, blk a = some b → b ≠ p from fun b hb h => by have := HFA.out b hb; omega)
      generalize w2.alloc (.cells #[.int .i64 n.kind, .int .i64 n.mode, .float .f64 n.time, .slice a n.bs.length c] 42) = w4 at *
      obtain ⟨⟨p0, p1, p2, p3⟩, ⟨l0, l1, l2, l3⟩, lt5⟩ := cell_fr HP4.out
      obtain ⟨y0, y1, y2, y3⟩ := cell_four HL4.out
      clear HK4 HL4 HP4 HP2 HNA HFA WW2 HK2 HP1 WW1 KV1 HH HWW
      refine hK1.out _ _ ?_
      clear hK1 K1
      cases hg : getT l jq with
      | none =>
        rw [hg] at HR3
        rw [show (none : Option ItemV).isSome = false from rfl]
        by_cases hz : 0 < parts.length
        · have hz' : (parts.length : Int) > 0 := by omega
          have HR4 := Lib.hid (HR3.out.trans (if_pos hz))
          clear HR3
          go_wp2
          go_ret2
          rw [HR4.out]
          exact ⟨rfl, HW4.out, HK5.out⟩
        · have hz0 : parts.length = 0 := by omega
          have HR4 := Lib.hid (HR3.out.trans (if_neg hz))
          clear HR3
          rw [hz0] at p2
          obtain ⟨pa', pc', hw1, hw2, hw3⟩ := HW4.out
          dsimp only at hw1 hw2 hw3
          have k6 : Kp (fun b => b = p) w4 (w4.setCell ⟨p, 1, none⟩ (.string ⟨jq.toArray⟩)) := (Kp.refl (fun b => b = p) w4).setCell ⟨p, 1, none⟩ (.inl rfl) _
          have HK6 := Lib.hid (HK5.out.trans k6)
          have HWE : Hid (WAt (w4.setCell ⟨p, 1, none⟩ (.string ⟨jq.toArray⟩)) p (.slice ta l.length tc) ⟨jq, parts, hops⟩) := ⟨pa', pc', set_f1 hw1, hw2.keep k6 (fun b hb h => hw3 b hb h), hw3⟩
          clear hw1 hw2 hw3 k6
          go_wp2
          go_ret2
          rw [HR4.out]
          exact ⟨rfl, HWE.out, HK6.out⟩
      | some x =>
        rw [hg] at HR3
        rw [show (some x).isSome = true from rfl]
        have hnx := HG.out x hg
        have hnk : x.kind = n.kind := by rw [hnx]; rfl
        have hnb : x.bs = n.bs := by rw [hnx]; rfl
        have HR3' : Hid (downT l follow ⟨at_, parts, hops⟩ q = (if n.kind = 3 ∧ (0 < parts.length ∨ follow = true) then ((thrT ⟨at_, parts, hops⟩ n.bs).1, true, (thrT ⟨at_, parts, hops⟩ n.bs).2) else (⟨jq, parts, hops⟩, true, 0))) := by
          have h := HR3.out
          simp only [hnk, hnb] at h
          exact h
        clear HR3 hnx hnk hnb HG HN
        by_cases hk3 : n.kind = 3
        · by_cases hz : 0 < parts.length
          · have hz' : (parts.length : Int) > 0 := by omega
            have HR4 := Lib.hid (HR3'.out.trans (if_pos ⟨hk3, .inl hz⟩))
            clear HR3'
            have hth := through_any p ta l.length tc ⟨at_, parts, hops⟩ a c n.bs m w4 hp (HM.out |> fun h => HKF.out.cell h id) HW4.out HSA.out HFB.out hpl hh HLB.out
            have HTH := Lib.hid hth
            clear hth
            go_wp2_with fail
            refine HTH.out.mono ?_
            rintro e w5 ⟨rfl, hw5, hk5⟩
            have HW5 := Lib.hid hw5
            have HK6 := Lib.hid (HK5.out.trans hk5)
            clear hw5 hk5 HTH
            go_wp2
            go_ret2
            rw [HR4.out]
            exact ⟨rfl, HW5.out, HK6.out⟩
          · have hz0 : parts.length = 0 := by omega
            rw [hz0] at p2
            cases follow with
            | true =>
              have HR4 := Lib.hid (HR3'.out.trans (if_pos ⟨hk3, .inr rfl⟩))
              clear HR3'
              have hth := through_any p ta l.length tc ⟨at_, parts, hops⟩ a c n.bs m w4 hp (HM.out |> fun h => HKF.out.cell h id) HW4.out HSA.out HFB.out hpl hh HLB.out
              have HTH := Lib.hid hth
              clear hth
              go_wp2_with fail
              refine HTH.out.mono ?_
              rintro e w5 ⟨rfl, hw5, hk5⟩
              have HW5 := Lib.hid hw5
              have HK6 := Lib.hid (HK5.out.trans hk5)
              clear hw5 hk5 HTH
              go_wp2
              go_ret2
              rw [HR4.out]
              exact ⟨rfl, HW5.out, HK6.out⟩
            | false =>
              have HR4 := Lib.hid (HR3'.out.trans (if_neg (by rintro ⟨_, h | h⟩; exact hz h; cases h)))
              clear HR3'
              obtain ⟨pa', pc', hw1, hw2, hw3⟩ := HW4.out
              dsimp only at hw1 hw2 hw3
              have k6 : Kp (fun b => b = p) w4 (w4.setCell ⟨p, 1, none⟩ (.string ⟨jq.toArray⟩)) := (Kp.refl (fun b => b = p) w4).setCell ⟨p, 1, none⟩ (.inl rfl) _
              have HK6 := Lib.hid (HK5.out.trans k6)
              have HWE : Hid (WAt (w4.setCell ⟨p, 1, none⟩ (.string ⟨jq.toArray⟩)) p (.slice ta l.length tc) ⟨jq, parts, hops⟩) := ⟨pa', pc', set_f1 hw1, hw2.keep k6 (fun b hb h => hw3 b hb h), hw3⟩
              clear hw1 hw2 hw3 k6
              go_wp2
              go_ret2
              rw [HR4.out]
              exact ⟨rfl, HWE.out, HK6.out⟩
        · have HR4 := Lib.hid (HR3'.out.trans (if_neg (by rintro ⟨h, _⟩; exact hk3 h)))
          clear HR3'
          obtain ⟨pa', pc', hw1, hw2, hw3⟩ := HW4.out
          dsimp only at hw1 hw2 hw3
          have k6 : Kp (fun b => b = p) w4 (w4.setCell ⟨p, 1, none⟩ (.string ⟨jq.toArray⟩)) := (Kp.refl (fun b => b = p) w4).setCell ⟨p, 1, none⟩ (.inl rfl) _
          have HK6 := Lib.hid (HK5.out.trans k6)
          have HWE : Hid (WAt (w4.setCell ⟨p, 1, none⟩ (.string ⟨jq.toArray⟩)) p (.slice ta l.length tc) ⟨jq, parts, hops⟩) := ⟨pa', pc', set_f1 hw1, hw2.keep k6 (fun b hb h => hw3 b hb h), hw3⟩
          clear hw1 hw2 hw3 k6
          go_wp2
          go_ret2
          rw [HR4.out]
          exact ⟨rfl, HWE.out, HK6.out⟩
end Go.Proofs.YtgpidbdgodgefaaDoor
