/- The contract of Pairs of package rename, of changes that may be. Conditions: as the theorem names them. -/
import Derived.Test.YtgpidbdgodgefaaDoorRenQ
import Derived.Test.YtgpidbdgodgefaaDoorRenMP
namespace Go.Proofs.YtgpidbdgodgefaaDoor
open Go.RowKit Go.Deep

open Classical in
/-- The pairs, where the paths rise. -/
noncomputable def prsL (l : List ChangeV) : List PairV := if RiseC l then pairsL l else []
theorem prsL_rise {l : List ChangeV} (h : RiseC l) : prsL l = pairsL l := if_pos h
theorem prsL_none {l : List ChangeV} (h : ¬ RiseC l) : prsL l = [] := if_neg h
theorem find_take {α : Type} (p : α → Bool) (l : List α) (k : Nat) (hk : k < l.length) (h : (l.take k).find? p = none) (hp : p l[k] = false) : (l.take (k + 1)).find? p = none := by
  rw [List.take_succ_eq_append_getElem hk, List.find?_append, h]
  simp [hp]
theorem find_hit {α : Type} (p : α → Bool) (l : List α) (k : Nat) (hk : k < l.length) (h : (l.take k).find? p = none) (hp : p l[k] = true) : l.find? p = some l[k] := by
  have e : l = l.take k ++ l[k] :: l.drop (k + 1) := by rw [← List.drop_eq_getElem_cons hk, List.take_append_drop]
  conv => lhs; rw [e]
  rw [List.find?_append, h, List.find?_cons, hp]
  rfl
theorem fold_take (l : List ChangeV) (i : Nat) (hi : i < l.length) : (l.take (i + 1)).foldl (pairStep l) [] = pairStep l ((l.take i).foldl (pairStep l) []) l[i] := by
  rw [List.take_succ_eq_append_getElem hi, List.foldl_append]
  rfl
/-- Pairs that the call has made. -/
def PairsEnd (w : World) (P : List PairV) (e : Ending) (w' : World) : Prop := ∃ v, e = .returned v ∧ OwnP w' w.heap.size v P ∧ Kp (fun _ => False) w w'

set_option maxHeartbeats 8000000 in
set_option maxRecDepth 100000 in
theorem pairs_any (a : Option Addr) (c : Nat) (l : List ChangeV) (m : Int) (w : World) (hm : w.cell? ⟨0, 0, none⟩ = some (.int .i64 m)) (h : ChgsAt w a l) (hl : l.length ≤ 1000000) (hch : ∀ x ∈ l, Ch x) :
    Calls Tryd.prog 38 #[.slice a l.length c] w (PairsEnd w (prsL l)) := by
  have HT := Lib.hid h
  have HRt := Lib.hid (diffRight_any a c l m w hm h (by omega) hch)
  have hsf : ∀ (a : Addr) (b : Nat) (m : Mode) (w : World), (store a (.float .f64 b) m).run Tryd.prog w = stored Tryd.prog w a (.float .f64 b) m := fun a b m w => run_store _ w a _ m rfl
  clear hm h hch
  go_enter Tryd.func38, Tryd.ntmps38
  go_wp2_with fail
  refine HRt.out.mono ?_
  rintro e w1 ⟨⟨r, rfl, hr⟩, hk1⟩
  have HK1 := Lib.hid hk1
  clear HRt hk1
  cases r with
  | false =>
    have HE := Lib.hid (prsL_none (fun h => by simpa using hr.2 h))
    clear hr
    go_wp2
    go_ret
    rw [HE.out]
    exact ⟨_, rfl, OwnP.nil _ _, HK1.out⟩
  | true =>
    have HE := Lib.hid (prsL_rise (hr.1 rfl))
    clear hr
    go_wp2_with fail
    go_loopw [3, 13] (fun v vi wr => ∃ (i : Nat) (P : List PairV) (pa : Option Addr) (pc : Nat), v = .slice pa P.length pc ∧ vi = .int .i64 i ∧ i ≤ l.length ∧ P.length ≤ i ∧ Hid (P = (l.take i).foldl (pairStep l) []) ∧ Hid (OwnP wr w.heap.size (.slice pa P.length pc) P) ∧ Hid (Kp (fun _ => False) w wr)) (fun _ vi _ => l.length - (intOf vi).toNat)
    case atStart => exact ⟨0, [], none, 0, rfl, rfl, Nat.zero_le _, Nat.le_refl _, Lib.hid rfl, Lib.hid (OwnP.nil _ _), HK1⟩
    case round =>
      clear HK1
      obtain ⟨i, P, pa, pc, rfl, rfl, hil, hPl, HP, HO, HK⟩ := hrel
      by_cases hlt : i < l.length
      · obtain ⟨b, off, oa, oc, na, nc, rfl, hx0⟩ := HT.out i hlt
        obtain ⟨d0, d1, d2, d3, d4, d5, d6, d7, d8, d9, n1, n2⟩ := hx0.keep HK.out
        have kA : Kp (fun _ => False) wr (wr.alloc (chgBlk l[i] oa oc na nc)) := (Kp.refl _ wr).alloc _
        have HKA := Lib.hid (HK.out.trans kA)
        have HOA := Lib.hid (HO.out.keep kA)
        have HN1 := Lib.hid (n1.keepF kA)
        have HBA := Lib.hid (hp_new wr (chgBlk l[i] oa oc na nc))
        have HFT := Lib.hid (show (l.take (i + 1)).foldl (pairStep l) [] = pairStep l P l[i] from by rw [fold_take l i hlt, ← HP.out])
        clear hx0 n1 n2 kA HP HO HK
        generalize l[i] = x at *
        by_cases hk : x.kind = 2
        case neg =>
          have hkb : (x.kind != 2) = true := by simp [hk]
          have HPS := Lib.hid (show pairStep l P x = P from if_neg fun h => hk h.1)
          clear hk
          go_wp2
          exact ⟨⟨i + 1, P, pa, pc, rfl, by go_num, by omega, by omega, Lib.hid (by rw [HFT.out, HPS.out]), HOA, HKA⟩, by simp only [intOf]; omega⟩
        have hkb : (x.kind != 2) = false := by simp [hk]
        by_cases hok : x.old.kind = 1
        case neg =>
          have hokb : (x.old.kind != 1) = true := by simp [hok]
          have HPS := Lib.hid (show pairStep l P x = P from if_neg fun h => hok h.2)
          clear hk hok
          go_wp2
          exact ⟨⟨i + 1, P, pa, pc, rfl, by go_num, by omega, by omega, Lib.hid (by rw [HFT.out, HPS.out]), HOA, HKA⟩, by simp only [intOf]; omega⟩
        have hokb : (x.old.kind != 1) = false := by simp [hok]
        have HPS := Lib.hid (show pairStep l P x = (match l.find? (hitL P x) with | some d => P ++ [⟨x.path, d.path⟩] | none => P) from if_pos ⟨hk, hok⟩)
        clear hk hok
        go_wp2_with fail
        clear d0 d1 d2 d3 d4 d5 d6 d7 d8 d9
        have HSZ := Lib.hid (show wr.heap.size < (wr.alloc (chgBlk x oa oc na nc)).heap.size by simp)
        generalize wr.alloc (chgBlk x oa oc na nc) = w2 at *
        generalize wr.heap.size = p at *
        go_loopw [3, 28] (fun v vk wq => ∃ k : Nat, v = .slice pa P.length pc ∧ vk = .int .i64 k ∧ k ≤ l.length ∧ Hid ((l.take k).find? (hitL P x) = none) ∧ Hid (Kp (fun _ => False) w2 wq)) (fun _ vk _ => l.length - (intOf vk).toNat)
        case atStart => exact ⟨0, rfl, rfl, Nat.zero_le _, Lib.hid rfl, Lib.hid (Kp.refl _ _)⟩
        case round =>
          obtain ⟨k, rfl, rfl, hkl, HF, HKq⟩ := hrel
          by_cases hkt : k < l.length
          · obtain ⟨b2, off2, oa2, oc2, na2, nc2, e2, hy0⟩ := HT.out k hkt
            cases e2
            obtain ⟨d0, d1, d2, d3, d4, d5, d6, d7, d8, d9, n1, n2⟩ := hy0.keep (HKA.out.trans HKq.out)
            have HFN := Lib.hid (fun hh => find_take (hitL P x) l k hkt HF.out hh)
            have HFH := Lib.hid (fun hh => find_hit (hitL P x) l k hkt HF.out hh)
            have kB : Kp (fun _ => False) wr (wr.alloc (chgBlk l[k] oa2 oc2 na2 nc2)) := (Kp.refl _ wr).alloc _
            have HKx := Lib.hid (HKq.out.trans kB)
            have HBB := Lib.hid (hp_new wr (chgBlk l[k] oa2 oc2 na2 nc2))
            have HBx := Lib.hid (kB.hp (HKq.out.hp HBA.out id) id)
            have HN2 := Lib.hid (n2.keepF kB)
            have HNx := Lib.hid ((HN1.out.keepF HKq.out).keepF kB)
            have HOB := Lib.hid ((HOA.out.keep HKq.out).keep kB)
            clear hy0 n1 n2 kB HF HKq
            generalize l[k] = y at *
            by_cases e1 : y.kind = 1
            case neg =>
              have eb : (y.kind == 1) = false := by simp [e1]
              have HR := Lib.hid (HFN.out (by simp [hitL, e1]))
              clear e1 HFN HFH
              go_wp2
              exact ⟨⟨k + 1, rfl, by go_num, by omega, HR, HKx⟩, by simp only [intOf]; omega⟩
            have eb1 : (y.kind == 1) = true := by simp [e1]
            by_cases e2 : y.new.kind = 1
            case neg =>
              have eb : (y.new.kind == 1) = false := by simp [e2]
              have HR := Lib.hid (HFN.out (by simp [hitL, e2]))
              clear e1 e2 HFN HFH
              go_wp2
              exact ⟨⟨k + 1, rfl, by go_num, by omega, HR, HKx⟩, by simp only [intOf]; omega⟩
            have eb2 : (y.new.kind == 1) = true := by simp [e2]
            have HHI : Hid (hitL P x y = (x.old.bs == y.new.bs && !takenL P y.path)) := by
              show _ = _
              unfold hitL
              rw [eb1, eb2]
              rfl
            clear e1 e2
            obtain ⟨q0, q1, q2, q3, q4, q5, q6, q7, q8, q9⟩ := cell_ten HBx.out
            go_wp2_with fail
            clear d0 d1 d2 d3 d4 d5 d6 d7 d8 d9 q0 q1 q2 q3 q4 q5 q6 q7 q8 q9
            generalize wr.alloc (chgBlk y oa2 oc2 na2 nc2) = w3 at *
            generalize wr.heap.size = p2 at *
            refine (equal_any oa na2 oc nc2 x.old.bs y.new.bs w3 HNx.out.sl HN2.out.sl).mono ?_
            rintro e w' ⟨rfl, rfl⟩
            cases e3 : (x.old.bs == y.new.bs) with
            | false =>
              have HR := Lib.hid (HFN.out (by rw [HHI.out, e3]; rfl))
              clear HFN HFH HHI e3
              go_wp2
              exact ⟨⟨k + 1, rfl, by go_num, by omega, HR, HKx⟩, by simp only [intOf]; omega⟩
            | true =>
              obtain ⟨pa', pc', hv, hps⟩ := HOB.out.pairs
              simp only [Value.slice.injEq, true_and] at hv
              obtain ⟨rfl, rfl⟩ := hv
              have HPS2 := Lib.hid hps
              obtain ⟨q0, q1, q2, q3, q4, q5, q6, q7, q8, q9⟩ := cell_ten HBB.out
              clear hps
              go_wp2_with fail
              refine (taken_any pa pc P y.path w3 HPS2.out (by omega)).mono ?_
              rintro e w5 ⟨rfl, hk5⟩
              have HK5 := Lib.hid (HKx.out.trans hk5)
              cases ht : takenL P y.path with
              | true =>
                have HR := Lib.hid (HFN.out (by rw [HHI.out, ht]; simp))
                clear HFN HFH HHI e3 hk5 ht
                go_wp2
                exact ⟨⟨k + 1, rfl, by go_num, by omega, HR, HK5⟩, by simp only [intOf]; omega⟩
              | false =>
                have HHT := Lib.hid (HFH.out (by rw [HHI.out, ht, e3]; rfl))
                clear q0 q1 q2 q3 q4 q5 q6 q7 q8 q9
                obtain ⟨q0, q1, q2, q3, q4, q5, q6, q7, q8, q9⟩ := cell_ten (hk5.hp HBB.out id)
                obtain ⟨t0, _, _, _, _, _, _, _, _, _⟩ := cell_ten (hk5.hp HBx.out id)
                have kG : Kp (fun _ => False) w5 (w5.alloc (.cells #[.string ⟨x.path.toArray⟩, .string ⟨y.path.toArray⟩] 58)) := (Kp.refl _ w5).alloc _
                have HO6 := Lib.hid ((HOB.out.keep hk5).keep kG)
                have HK6 := Lib.hid (HKA.out.trans (HK5.out.trans kG))
                have HG := Lib.hid (hp_new w5 (.cells #[.string ⟨x.path.toArray⟩, .string ⟨y.path.toArray⟩] 58))
                clear HFN HFH HHI e3 hk5 ht kG
                go_wp2_with (at_builtin; refine wpList_append_pair rfl w.heap.size (.tmp 57) (.tmp 63) rfl (.slice pa P.length pc) P rfl HO6.out (by have := HK6.out.size; exact this) ⟨x.path, y.path⟩ w5.heap.size rfl 58 (0, 0) HG.out (by omega) ?_)
                intro v' w' hown' hk'
                obtain ⟨Q, hQ⟩ : ∃ Q, Q = P ++ [⟨x.path, y.path⟩] := ⟨_, rfl⟩
                have hQl : Q.length ≤ i + 1 := by rw [hQ, List.length_append]; simpa using hPl
                have HQ := Lib.hid (show Q = (l.take (i + 1)).foldl (pairStep l) [] from by rw [HFT.out, HPS.out, HHT.out, hQ])
                rw [← hQ] at hown'
                have HK7 := Lib.hid (HK6.out.step hk' (fun k hk h => by have := (HO6.out.lt k h).1; omega))
                obtain ⟨pa2, pc2, rfl, _⟩ := hown'.pairs
                have HO7 := Lib.hid hown'
                clear hown' hk' hQ
                go_wp2
                exact ⟨⟨i + 1, Q, pa2, pc2, rfl, by go_num, by omega, hQl, HQ, HO7, HK7⟩, by simp only [intOf]; omega⟩
          · have HPn := Lib.hid (show (l.take (i + 1)).foldl (pairStep l) [] = P from by
              have h := HF.out
              rw [List.take_of_length_le (by omega)] at h
              rw [HFT.out, HPS.out, h])
            have HOq := Lib.hid (HOA.out.keep HKq.out)
            have HKw := Lib.hid (HKA.out.trans HKq.out)
            go_wp2
            exact ⟨⟨i + 1, P, pa, pc, rfl, by go_num, by omega, by omega, Lib.hid HPn.out.symm, HOq, HKw⟩, by simp only [intOf]; omega⟩
      · have HX := Lib.hid (show prsL l = P from by have h := HP.out; rw [List.take_of_length_le (by omega)] at h; rw [HE.out, h]; rfl)
        go_wp2
        go_ret
        rw [HX.out]
        exact ⟨_, rfl, HO.out, HK.out⟩
end Go.Proofs.YtgpidbdgodgefaaDoor
