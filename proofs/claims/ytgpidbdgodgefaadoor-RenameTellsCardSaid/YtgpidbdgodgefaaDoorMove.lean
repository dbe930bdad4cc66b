/- The contract of the document's Move. Conditions: as the theorem names them. -/
import Derived.Test.YtgpidbdgodgefaaDoorRem
namespace Go.Proofs.YtgpidbdgodgefaaDoor
open Go.RowKit Go.Deep

theorem treeEnd_own {w w' : World} {R : List ItemV} {e : Ending} (h : TreeEnd w R e w') : ∃ v T, e = .returned v ∧ R = T ∧ OwnV w' w.heap.size v T ∧ Kp (fun _ => False) w w' := by
  obtain ⟨v, L, rfl, hm, ho, hk⟩ := h
  exact ⟨v, R, rfl, rfl, ⟨L, hm, ho⟩, hk⟩

set_option maxHeartbeats 8000000 in
set_option maxRecDepth 100000 in
theorem refMove_any (a : Option Addr) (c : Nat) (l : List ItemV) (fr tp : List UInt8) (w : World) (h : TreeAt w a l) (hl : l.length ≤ 400) (hpl : ∀ x ∈ l, x.path.length ≤ 1000) (hfl : fr.length ≤ 1000) (htl : tp.length ≤ 1000) :
    Calls Tryd.prog 72 #[.slice a l.length c, .string ⟨fr.toArray⟩, .string ⟨tp.toArray⟩] w (PutEnd w (moveL l fr tp)) := by
  have HT := Lib.hid h
  have HPL := Lib.hid hpl
  have HR := Lib.hid (show moveL l fr tp = (if fr = [] ∨ tp = [] ∨ isPathB fr = false ∨ isPathB tp = false then ([], 1)
    else if (lookT l fr).isSome = false then ([], 6)
    else if belowB fr tp = true then ([], 18)
    else if (lookT l tp).isSome = true then ([], 7)
    else if dirL l (dirB tp) = false then ([], 9)
    else moveR fr tp l (remL l fr)) from rfl)
  have HK0 := Lib.hid (Kp.refl (fun _ => False) w)
  have hsf : ∀ (a : Addr) (b : Nat) (m : Mode) (w : World), (store a (.float .f64 b) m).run Tryd.prog w = stored Tryd.prog w a (.float .f64 b) m := fun a b m w => run_store _ w a _ m rfl
  clear h hpl
  go_enter Tryd.func72, Tryd.ntmps72
  cases he1 : fr.isEmpty with
  | true =>
    have HR1 := Lib.hid (show moveL l fr tp = ([], 1) from by rw [HR.out, if_pos (.inl (List.isEmpty_iff.1 he1))])
    clear HR
    go_wp2
    go_ret2
    rw [HR1.out]
    exact ⟨_, [], rfl, rfl, OwnT.nil _ _, HK0.out⟩
  | false =>
  have hf0 : fr ≠ [] := fun e => by subst e; cases he1
  cases he2 : tp.isEmpty with
  | true =>
    have HR1 := Lib.hid (show moveL l fr tp = ([], 1) from by rw [HR.out, if_pos (.inr (.inl (List.isEmpty_iff.1 he2)))])
    clear HR
    go_wp2
    go_ret2
    rw [HR1.out]
    exact ⟨_, [], rfl, rfl, OwnT.nil _ _, HK0.out⟩
  | false =>
  have ht0 : tp ≠ [] := fun e => by subst e; cases he2
  go_wp2_with fail
  refine (refIsPath_any fr w (by omega)).mono ?_
  rintro e w1 ⟨rfl, hk1⟩
  have HK1 := Lib.hid hk1
  clear hk1 HK0
  cases hp1 : isPathB fr with
  | false =>
    have HR1 := Lib.hid (show moveL l fr tp = ([], 1) from by rw [HR.out, if_pos (.inr (.inr (.inl hp1)))])
    clear HR hf0 ht0
    go_wp2
    go_ret2
    rw [HR1.out]
    exact ⟨_, [], rfl, rfl, OwnT.nil _ _, HK1.out⟩
  | true =>
  go_wp2_with fail
  refine (refIsPath_any tp w1 (by omega)).mono ?_
  rintro e w2 ⟨rfl, hk2⟩
  have HK2 := Lib.hid (HK1.out.trans hk2)
  clear hk2 HK1
  cases hp2 : isPathB tp with
  | false =>
    have HR1 := Lib.hid (show moveL l fr tp = ([], 1) from by rw [HR.out, if_pos (.inr (.inr (.inr hp2)))])
    clear HR hf0 ht0
    go_wp2
    go_ret2
    rw [HR1.out]
    exact ⟨_, [], rfl, rfl, OwnT.nil _ _, HK2.out⟩
  | true =>
  have HR2 := Lib.hid (show moveL l fr tp = (if (lookT l fr).isSome = false then ([], 6) else if belowB fr tp = true then ([], 18) else if (lookT l tp).isSome = true then ([], 7) else if dirL l (dirB tp) = false then ([], 9) else moveR fr tp l (remL l fr)) from by
    rw [HR.out, if_neg]
    rintro (h | h | h | h)
    · exact hf0 h
    · exact ht0 h
    · rw [hp1] at h; cases h
    · rw [hp2] at h; cases h)
  have HF0 := Lib.hid hf0
  clear HR hf0 ht0
  go_wp2_with fail
  refine (refGet_any a c l fr w2 (HT.out.keep HK2.out) (by omega)).mono ?_
  rintro e w3 ⟨n, na, nc, rfl, h5, h6, h7, h8, hk3⟩
  clear h5 h6 h7 h8
  rw [nodeVal]
  have k4 : Kp (fun _ => False) w3 (w3.alloc (.cells #[.int .i64 n.kind, .int .i64 n.mode, .float .f64 n.time, .slice na n.bs.length nc] 42)) := (Kp.refl _ w3).alloc _
  have HK4 := Lib.hid ((HK2.out.trans hk3).trans k4)
  clear k4 hk3 HK2
  generalize hol : lookT l fr = ol at *
  cases ol with
  | none =>
    have HR1 := Lib.hid (show moveL l fr tp = ([], 6) from by rw [HR2.out]; rfl)
    clear HR2
    go_wp2
    go_ret2
    rw [HR1.out]
    exact ⟨_, [], rfl, rfl, OwnT.nil _ _, HK4.out⟩
  | some x0 =>
  have HR3 := Lib.hid (show moveL l fr tp = (if belowB fr tp = true then ([], 18) else if (lookT l tp).isSome = true then ([], 7) else if dirL l (dirB tp) = false then ([], 9) else moveR fr tp l (remL l fr)) from by rw [HR2.out]; rfl)
  clear HR2 hol
  go_wp2_with fail
  generalize w3.alloc (.cells #[.int .i64 n.kind, .int .i64 n.mode, .float .f64 n.time, .slice na n.bs.length nc] 42) = w4 at *
  generalize w3.heap.size = g1 at *
  refine (refBelow_any fr tp w4 (by omega) (by omega)).mono ?_
  rintro e w' ⟨rfl, rfl⟩
  cases hbl : belowB fr tp with
  | true =>
    have HR1 := Lib.hid (show moveL l fr tp = ([], 18) from by rw [HR3.out, if_pos hbl])
    clear HR3
    go_wp2
    go_ret2
    rw [HR1.out]
    exact ⟨_, [], rfl, rfl, OwnT.nil _ _, HK4.out⟩
  | false =>
  have HR4 := Lib.hid (show moveL l fr tp = (if (lookT l tp).isSome = true then ([], 7) else if dirL l (dirB tp) = false then ([], 9) else moveR fr tp l (remL l fr)) from by rw [HR3.out, if_neg (by rw [hbl]; decide)])
  clear HR3
  go_wp2_with fail
  refine (refGet_any a c l tp w4 (HT.out.keep HK4.out) (by omega)).mono ?_
  rintro e w5 ⟨n2, na2, nc2, rfl, h5, h6, h7, h8, hk5⟩
  clear h5 h6 h7 h8
  rw [nodeVal]
  have k6 : Kp (fun _ => False) w5 (w5.alloc (.cells #[.int .i64 n2.kind, .int .i64 n2.mode, .float .f64 n2.time, .slice na2 n2.bs.length nc2] 42)) := (Kp.refl _ w5).alloc _
  have HK6 := Lib.hid ((HK4.out.trans hk5).trans k6)
  clear k6 hk5 HK4
  generalize hol : lookT l tp = ol at *
  cases ol with
  | some x1 =>
    have HR1 := Lib.hid (show moveL l fr tp = ([], 7) from by rw [HR4.out]; rfl)
    clear HR4
    go_wp2
    go_ret2
    rw [HR1.out]
    exact ⟨_, [], rfl, rfl, OwnT.nil _ _, HK6.out⟩
  | none =>
  have HR5 := Lib.hid (show moveL l fr tp = (if dirL l (dirB tp) = false then ([], 9) else moveR fr tp l (remL l fr)) from by rw [HR4.out]; rfl)
  clear HR4 hol
  go_wp2_with fail
  generalize w5.alloc (.cells #[.int .i64 n2.kind, .int .i64 n2.mode, .float .f64 n2.time, .slice na2 n2.bs.length nc2] 42) = w6 at *
  generalize w5.heap.size = g2 at *
  refine (refDir_any tp w6 (by omega)).mono ?_
  rintro e w' ⟨rfl, rfl⟩
  go_wp2_with fail
  refine (refIsDir_any a c l (dirB tp) w6 (HT.out.keep HK6.out) (by omega)).mono ?_
  rintro e w7 ⟨rfl, hk7⟩
  have HK7 := Lib.hid (HK6.out.trans hk7)
  clear hk7 HK6
  cases hdd : dirL l (dirB tp) with
  | false =>
    have HR1 := Lib.hid (show moveL l fr tp = ([], 9) from by rw [HR5.out, if_pos hdd])
    clear HR5
    go_wp2
    go_ret2
    rw [HR1.out]
    exact ⟨_, [], rfl, rfl, OwnT.nil _ _, HK7.out⟩
  | true =>
  obtain ⟨R, hRe⟩ : ∃ R, R = moveR fr tp l (remL l fr) := ⟨_, rfl⟩
  have HRm := Lib.hid (show moveL l fr tp = R from by rw [HR5.out, if_neg (by rw [hdd]; decide), hRe])
  have HRe := Lib.hid hRe
  have hrl : (remL l fr).length ≤ l.length := (remL_sub l fr).length_le
  clear HR5 hRe
  go_wp2_with fail
  refine (refRemove_any a c l fr w7 (HT.out.keep HK7.out) (by omega) HPL.out hfl).mono ?_
  rintro e w8 he8
  obtain ⟨v8, T8, rfl, hT8, ho8, hk8⟩ := treeEnd_own he8
  have HO8 := Lib.hid (ho8.from_ HK7.out.size)
  have HK8 := Lib.hid (HK7.out.trans hk8)
  rw [hT8] at hrl
  have HM8 := Lib.hid (show moveR fr tp (l.drop 0) T8 = R from by rw [HRe.out, hT8]; rfl)
  clear he8 hT8 ho8 hk8 HK7 HRe
  go_wp2_with fail
  go_loopw [12, 13] (fun u v wr => ∃ (i : Nat) (T : List ItemV), v = .int .i64 i ∧ i ≤ l.length ∧ T.length ≤ l.length + i ∧ Hid (moveR fr tp (l.drop i) T = R) ∧ Hid (OwnV wr w.heap.size u T) ∧ Hid (Kp (fun _ => False) w wr)) (fun _ v _ => l.length - (intOf v).toNat)
  case atStart => exact ⟨0, T8, rfl, Nat.zero_le _, by omega, HM8, HO8, HK8⟩
  case round =>
    clear HM8 HO8 HK8 hrl
    obtain ⟨i, T, rfl, hil, hTl, HM, HO, HK⟩ := hrel
    by_cases hlt : i < l.length
    · obtain ⟨b, off, ad, cp, rfl, hx0⟩ := HT.out i hlt
      have hx := hx0.keep HK.out
      obtain ⟨d0, d1, d2, d3, d4, n1, n2', n3⟩ := hx
      have HN := Lib.hid (show NAt wr l[i].node ad cp from ⟨n1, n2', n3⟩)
      have hpi := HPL.out l[i] (List.getElem_mem hlt)
      have HS := Lib.hid (show (if movedB fr l[i].path = false then moveR fr tp (l.drop (i + 1)) T else if 120 < (tp ++ l[i].path.drop fr.length).length then ([], 12) else moveR fr tp (l.drop (i + 1)) (setL (l[i].node.item (tp ++ l[i].path.drop fr.length)) false T)) = R from by
        have h5 := HM.out
        rw [List.drop_eq_getElem_cons hlt, moveR] at h5
        exact h5)
      clear hx0 n1 n2' n3 HM
      generalize l[i] = x at *
      cases hm : movedB fr x.path with
      | false =>
        have HS2 := Lib.hid (show moveR fr tp (l.drop (i + 1)) T = R from by have h5 := HS.out; rw [if_pos hm] at h5; exact h5)
        unfold movedB at hm
        rw [Bool.or_eq_false_iff] at hm
        obtain ⟨m1, m2⟩ := hm
        clear HS
        go_wp2_with fail
        refine (refBelow_any fr x.path wr (by omega) (by omega)).mono ?_
        rintro e w' ⟨rfl, rfl⟩
        rw [m2]
        go_wp2
        exact ⟨⟨i + 1, T, by go_num, by omega, by omega, HS2, HO, HK⟩, by simp only [intOf]; omega⟩
      | true =>
        have hle : fr.length ≤ x.path.length := by
          unfold movedB at hm
          rw [Bool.or_eq_true, beq_iff_eq] at hm
          rcases hm with h | h
          · rw [h]; exact Nat.le_refl _
          · obtain ⟨y, hy⟩ := (belowB_iff HF0.out x.path).1 h
            rw [hy, List.length_append]; omega
        have hdr := bytes_drop x.path fr.length
        have hdl : (x.path.drop fr.length).length ≤ 1000 := by rw [List.length_drop]; omega
        have hcat := run_cat tp (x.path.drop fr.length) (by omega)
        have HS2 := Lib.hid (show (if 120 < (tp ++ x.path.drop fr.length).length then ([], 12) else moveR fr tp (l.drop (i + 1)) (setL (x.node.item (tp ++ x.path.drop fr.length)) false T)) = R from by have h5 := HS.out; rw [if_neg (by rw [hm]; decide)] at h5; exact h5)
        have hql : (tp ++ x.path.drop fr.length).length ≤ 2000 := by rw [List.length_append]; omega
        obtain ⟨q, hq⟩ : ∃ q, q = tp ++ x.path.drop fr.length := ⟨_, rfl⟩
        rw [← hq] at hql HS2
        have HQE := Lib.hid hq
        obtain ⟨ta, tc, rfl, hT⟩ := HO.out.tree
        have HTT := Lib.hid hT
        clear HS hT
        go_upto_region 18 with fail
        go_cut [77] from 69 to 76 (fun s wx => s = .bool false ∧ wx = wr)
        case first =>
          unfold movedB at hm
          cases hpe : (x.path == fr) with
          | true =>
            go_wp2_with fail
            go_meet
            exact ⟨rfl, rfl⟩
          | false =>
            rw [hpe, Bool.false_or] at hm
            go_wp2_with fail
            refine (refBelow_any fr x.path wr (by omega) (by omega)).mono ?_
            rintro e w' ⟨rfl, rfl⟩
            rw [hm]
            go_wp2
            go_meet
            exact ⟨rfl, rfl⟩
        obtain ⟨rfl, hwc⟩ := hcut
        replace hwc := hwc.symm
        subst hwc
        rw [← hq] at hcat
        clear hm hq
        by_cases h120 : 120 < q.length
        · have hd : decide ((q.length : Int) > 120) = true := decide_eq_true (by omega)
          have HX := Lib.hid (show R = ([], 12) from by have h5 := HS2.out; rw [if_pos h120] at h5; exact h5.symm)
          go_wp2
          go_ret2
          rw [HRm.out, HX.out]
          exact ⟨_, [], rfl, rfl, OwnT.nil _ _, HK.out⟩
        · have hd : decide ((q.length : Int) > 120) = false := decide_eq_false (by omega)
          have HS3 := Lib.hid (show moveR fr tp (l.drop (i + 1)) (setL (x.node.item q) false T) = R from by have h5 := HS2.out; rw [if_neg h120] at h5; exact h5)
          have hSet := refSet_any ta tc T q x.node ad cp wr HTT.out (by omega) HN.out
          rw [nodeVal] at hSet
          replace hSet := Lib.hid hSet
          have hsl := setL_len (x.node.item q) false T
          clear HS2
          go_wp2_with fail
          refine hSet.out.mono ?_
          rintro e w9 he9
          obtain ⟨v9, T9, rfl, hT9, ho9, hk9⟩ := treeEnd_own he9
          have HO9 := Lib.hid (ho9.from_ HK.out.size)
          have HK9 := Lib.hid (HK.out.trans hk9)
          rw [hT9] at hsl
          have HM9 := Lib.hid (show moveR fr tp (l.drop (i + 1)) T9 = R from by rw [← hT9]; exact HS3.out)
          clear he9 hT9 ho9 hk9 hSet HS3
          go_wp2
          exact ⟨⟨i + 1, T9, by go_num, by omega, by omega, HM9, HO9, HK9⟩, by simp only [intOf]; omega⟩
    · have HX := Lib.hid (show R = (T, 0) from by have h5 := HM.out; rw [List.drop_eq_nil_of_le (by omega), moveR] at h5; exact h5.symm)
      obtain ⟨L, hL, hOT⟩ := HO.out
      have HL := Lib.hid hL
      have HOT := Lib.hid hOT
      clear hL hOT HO HM
      go_wp2
      go_ret2
      rw [HRm.out, HX.out]
      exact ⟨_, L, rfl, HL.out, HOT.out, HK.out⟩
end Go.Proofs.YtgpidbdgodgefaaDoor
