/- The walk of WalkPlain: it answers true and turns nothing that was there. Conditions: as the theorem names them. -/
import Derived.Test.YtgpidbdgodgefaaDoorHTree
import Derived.Test.YtgpidbdgodgefaaDoorWalkL4
import Derived.Deep.CutRange
import Derived.Deep.CutBlock
namespace Go.Proofs.YtgpidbdgodgefaaDoor
open Go.RowKit Go.Deep

set_option maxHeartbeats 8000000 in
set_option maxRecDepth 100000 in
theorem walkPlain_any (a : Option Addr) (c : Nat) (l : List RawV) (at_ : Int) (s : List UInt8) (follow : Bool) (m : Int) (w : World) (h : RawsAt w a l) (hl : l.length ≤ 9223372036854775807) (hat : -9223372036854775808 ≤ at_ ∧ at_ ≤ 9223372036854775807) (hs : s.length ≤ 9223372036854775807) (hm : w.cell? ⟨0, 0, none⟩ = some (.int .i64 m)) :
    Calls Tryd.prog 11 #[.slice a l.length c, .int .i64 at_, .string ⟨s.toArray⟩, .bool follow] w fun e w' => e = .returned (.bool true) ∧ Kp (fun _ => False) w w' := by
  have HM := Lib.hid hm
  have HTr := Lib.hid (htree_any a c l w h hl)
  have hsf : ∀ (a : Addr) (b : Nat) (m : Mode) (w : World), (store a (.float .f64 b) m).run Tryd.prog w = stored Tryd.prog w a (.float .f64 b) m := fun a b m w => run_store _ w a _ m rfl
  clear hm h
  go_enter Tryd.func11, Tryd.ntmps11
  go_wp2_with fail
  refine HTr.out.mono ?_
  rintro e w1 ⟨v, T, rfl, hh, ho, hk1⟩
  have HH := Lib.hid hh
  have HK1 := Lib.hid hk1
  have HM1 := Lib.hid (hk1.cell HM.out id)
  obtain ⟨ta, tc, rfl, hT⟩ := ho.tree
  have HT1 := Lib.hid hT
  have hlen := hh.len
  clear hh ho hk1 hT HTr HM
  go_wp2_with fail
  refine (known15_any m w1 HM1.out).mono ?_
  rintro e w2 ⟨rfl, hk2⟩
  have HK2 := Lib.hid (HK1.out.trans hk2)
  have HM2 := Lib.hid (hk2.cell HM1.out id)
  have HT2 := Lib.hid (HT1.out.keep hk2)
  clear hk2 HK1 HM1 HT1
  go_wp2_with fail
  refine (Walk_any ta tc T s follow m w2 HM2.out HT2.out (by omega) hs).mono ?_
  rintro e w3 ⟨rfl, hk3⟩
  have HTD := Lib.hid (walk_told HH.out.ok s follow)
  have HK3 := Lib.hid (HK2.out.trans hk3)
  have HM3 := Lib.hid (hk3.cell HM2.out id)
  have HT3 := Lib.hid (HT2.out.keep hk3)
  clear hk3 HK2 HM2 HT2
  generalize walkT T s follow = R at *
  obtain ⟨p, ok, er⟩ := R
  dsimp only
  go_upto_if 32 with fail
  go_cut [] from 33 to 66 (fun wx => Hid (Kp (fun _ => False) w3 wx))
  case first =>
    by_cases he : er = 0
    · subst he
      obtain ⟨q1, q2, q3⟩ := HTD.out.1 rfl
      dsimp only at q1 q2 q3
      have hpl := isPath_len q1
      have HQ1 := Lib.hid q1
      have HQ3 := Lib.hid q3
      clear q1 q3 HTD
      go_wp2_with fail
      refine (refGet_any ta tc T p w3 HT3.out (by omega)).mono ?_
      rintro e w4 ⟨n, na, nc, rfl, h5, h6, h7, h8, hk4⟩
      clear h5 h6 h7 h8
      rw [nodeVal]
      have k5 : Kp (fun _ => False) w4 (w4.alloc (.cells #[.int .i64 n.kind, .int .i64 n.mode, .float .f64 n.time, .slice na n.bs.length nc] 42)) := (Kp.refl _ w4).alloc _
      have HK5 := Lib.hid (hk4.trans k5)
      have HT5 := Lib.hid ((HT3.out.keep hk4).keep k5)
      clear hk4 k5
      have hc : (ok = true) ∨ (ok = false ∧ (lookT T p).isSome = false ∧ p.isEmpty = false) := by
        rw [q2]
        cases (lookT T p).isSome <;> cases p.isEmpty <;> simp
      rcases hc with rfl | ⟨rfl, hi, hpe⟩
      · have hor : ((lookT T p).isSome || p.isEmpty) = true := by rw [Bool.or_comm, ← q2]
        clear q2
        generalize (lookT T p).isSome = is at *
        cases is with
        | true =>
          go_wp2_with fail
          generalize w4.alloc (.cells #[.int .i64 n.kind, .int .i64 n.mode, .float .f64 n.time, .slice na n.bs.length nc] 42) = w5 at *
          refine (refIsPath_any p w5 (by omega)).mono ?_
          rintro e w6 ⟨rfl, hk6⟩
          have HK6 := Lib.hid (HK5.out.trans hk6)
          rw [HQ1.out]
          clear hk6
          go_wp2
          go_meet
          exact HK6
        | false =>
          have hpe : p.isEmpty = true := by simpa using hor
          go_wp2_with fail
          generalize w4.alloc (.cells #[.int .i64 n.kind, .int .i64 n.mode, .float .f64 n.time, .slice na n.bs.length nc] 42) = w5 at *
          refine (refIsPath_any p w5 (by omega)).mono ?_
          rintro e w6 ⟨rfl, hk6⟩
          have HK6 := Lib.hid (HK5.out.trans hk6)
          rw [HQ1.out]
          clear hk6
          go_wp2
          go_meet
          exact HK6
      · rw [hi]
        have HDD := Lib.hid (HQ3.out rfl)
        clear q2 hi HQ3
        go_wp2_with fail
        generalize w4.alloc (.cells #[.int .i64 n.kind, .int .i64 n.mode, .float .f64 n.time, .slice na n.bs.length nc] 42) = w5 at *
        refine (refIsPath_any p w5 (by omega)).mono ?_
        rintro e w6 ⟨rfl, hk6⟩
        have HK6 := Lib.hid (HK5.out.trans hk6)
        have HT6 := Lib.hid (HT5.out.keep hk6)
        rw [HQ1.out]
        clear hk6
        go_wp2_with fail
        refine (refDir_any p w6 (by omega)).mono ?_
        rintro e w' ⟨rfl, rfl⟩
        go_wp2_with fail
        refine (refIsDir_any ta tc T (dirB p) w6 HT6.out (by omega)).mono ?_
        rintro e w7 ⟨rfl, hk7⟩
        have HK7 := Lib.hid (HK6.out.trans hk7)
        rw [HDD.out]
        clear hk7
        go_wp2
        go_meet
        exact HK7
    · have heb : (er == 0) = false := by simpa using he
      obtain ⟨q1, q2⟩ := HTD.out.2 he
      dsimp only at q1 q2
      subst q1 q2
      clear HTD
      go_wp2_with fail
      go_meet
      exact Lib.hid (Kp.refl _ _)
  have HKc := Lib.hid (HK3.out.trans hcut.out)
  have HMc := Lib.hid (hcut.out.cell HM3.out id)
  have HTc := Lib.hid (HT3.out.keep hcut.out)
  clear hcut HK3 HM3 HT3 HTD
  by_cases h0 : T.length = 0
  · have hz : ((T.length : Int) == 0) = true := by simp [h0]
    go_wp2
    go_ret
    exact ⟨rfl, HKc.out⟩
  have hz : ((T.length : Int) == 0) = false := beq_eq_false_iff_ne.2 fun e => h0 (by exact_mod_cast e)
  go_wp2_with fail
  refine (pick_any at_ T.length wc (by omega) (by omega) hat.1 hat.2).mono ?_
  rintro e w' ⟨rfl, rfl⟩
  have hmod := Int.emod_nonneg at_ (show (T.length : Int) ≠ 0 from fun e => h0 (by exact_mod_cast e))
  have hmlt := Int.emod_lt_of_pos at_ (show (0 : Int) < T.length by omega)
  obtain ⟨k, hk⟩ : ∃ k : Nat, at_ % (T.length : Int) = k := ⟨(at_ % (T.length : Int)).toNat, by omega⟩
  rw [hk] at hmod hmlt ⊢
  have hkT : k < T.length := by omega
  clear hk hmod hmlt
  obtain ⟨b, off, ad, cp, rfl, hx⟩ := HTc.out k hkT
  have HXM := Lib.hid (List.getElem_mem hkT)
  obtain ⟨d0, d1, d2, d3, d4, _, _, _⟩ := hx
  have HP1 := Lib.hid (fun h => walk_self HH.out.ok HXM.out h)
  have HP2 := Lib.hid (fun h1 h2 => walk_slash HH.out.ok HXM.out h1 h2 follow)
  have hpl := HH.out.paths T[k] HXM.out
  clear HXM
  generalize T[k] = x at *
  have hcat1 := run_cat [47] x.path (by simp; omega)
  have hcat2 := run_cat x.path [47, 46, 47] (by simp; omega)
  have k4 : Kp (fun _ => False) wc (wc.alloc (.cells #[.string ⟨x.path.toArray⟩, .int .i64 x.kind, .int .i64 x.mode, .float .f64 x.time, .slice ad x.bs.length cp] 44)) := (Kp.refl _ wc).alloc _
  have HK4 := Lib.hid (HKc.out.trans k4)
  have HM4 := Lib.hid (k4.cell HMc.out id)
  have HT4 := Lib.hid (HTc.out.keep k4)
  have HG4 := Lib.hid (hp_new wc (.cells #[.string ⟨x.path.toArray⟩, .int .i64 x.kind, .int .i64 x.mode, .float .f64 x.time, .slice ad x.bs.length cp] 44))
  obtain ⟨g0, g1, g2, g3, g4⟩ := cell_five HG4.out
  clear k4 HKc HMc HTc
  go_wp2_with fail
  generalize wc.alloc (.cells #[.string ⟨x.path.toArray⟩, .int .i64 x.kind, .int .i64 x.mode, .float .f64 x.time, .slice ad x.bs.length cp] 44) = w4 at *
  refine (Walk_any (some ⟨b, off, none⟩) tc T (47 :: x.path) false m w4 HM4.out HT4.out (by omega) (by simp; omega)).mono ?_
  rintro e w5 ⟨rfl, hk5⟩
  have HK5 := Lib.hid (HK4.out.trans hk5)
  have HM5 := Lib.hid (hk5.cell HM4.out id)
  have HT5 := Lib.hid (HT4.out.keep hk5)
  have HG5 := Lib.hid (hk5.hp HG4.out id)
  obtain ⟨g0, g1, g2, g3, g4⟩ := cell_five HG5.out
  clear hk5 HK4 HM4 HT4 HG4
  by_cases hl120 : x.path.length ≤ 119
  case neg =>
    have hd : decide ((x.path.length : Int) ≥ 120) = true := by simp; omega
    generalize walkT T (47 :: x.path) false = R at *
    obtain ⟨p1, ok1, er1⟩ := R
    dsimp only
    go_wp2
    go_ret
    exact ⟨rfl, HK5.out⟩
  have hd : decide ((x.path.length : Int) ≥ 120) = false := by simp; omega
  rw [HP1.out hl120]
  dsimp only
  by_cases hkd : x.kind = 2
  case neg =>
    have hkb : (x.kind == 2) = false := by simp [hkd]
    have hkb2 : (x.kind != 2) = true := by simp [hkd]
    clear hkd
    go_wp2
    go_ret
    exact ⟨rfl, HK5.out⟩
  have hkb : (x.kind == 2) = true := by simp [hkd]
  have hkb2 : (x.kind != 2) = false := by simp [hkd]
  by_cases hl116 : x.path.length ≤ 116
  case neg =>
    have hd2 : decide ((x.path.length : Int) + 4 > 120) = true := by simp; omega
    clear hkd
    go_wp2
    go_ret
    exact ⟨rfl, HK5.out⟩
  have hd2 : decide ((x.path.length : Int) + 4 > 120) = false := by simp; omega
  have HP3 := Lib.hid (HP2.out hkd hl116)
  clear hkd
  go_wp2_with fail
  refine (Walk_any (some ⟨b, off, none⟩) tc T (x.path ++ [47, 46, 47]) follow m w5 HM5.out HT5.out (by omega) (by simp; omega)).mono ?_
  rintro e w6 ⟨rfl, hk6⟩
  rw [HP3.out]
  have HK6 := Lib.hid (HK5.out.trans hk6)
  have HG6 := Lib.hid (hk6.hp HG5.out id)
  obtain ⟨g0, g1, g2, g3, g4⟩ := cell_five HG6.out
  clear hk6 HK5 HM5 HT5 HG5
  go_wp2
  go_ret
  exact ⟨by simp, HK6.out⟩
end Go.Proofs.YtgpidbdgodgefaaDoor
