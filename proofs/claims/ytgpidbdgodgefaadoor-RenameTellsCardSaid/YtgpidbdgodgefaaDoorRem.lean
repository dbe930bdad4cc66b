/- The contract of the document's Remove. Conditions: as the theorem names them. -/
import Derived.Test.YtgpidbdgodgefaaDoorTreeP
import Derived.Test.YtgpidbdgodgefaaDoorTurnL
namespace Go.Proofs.YtgpidbdgodgefaaDoor
open Go.RowKit Go.Deep

def outL (l : List ItemV) (p : List UInt8) : List ItemV := l.filter fun y => y.path != p
theorem outL_take (l : List ItemV) (p : List UInt8) (i : Nat) (hi : i < l.length) : outL (l.take (i + 1)) p = if l[i].path = p then outL (l.take i) p else outL (l.take i) p ++ [l[i]] := by
  unfold outL
  rw [List.take_succ_eq_append_getElem hi, List.filter_append]
  by_cases hc : l[i].path = p <;> simp [hc]

set_option maxHeartbeats 4000000 in
set_option maxRecDepth 100000 in
theorem refRemove_any (a : Option Addr) (c : Nat) (l : List ItemV) (s : List UInt8) (w : World) (h : TreeAt w a l) (hl : l.length ≤ 1000) (hpl : ∀ x ∈ l, x.path.length ≤ 1000) (hs : s.length ≤ 1000) :
    Calls Tryd.prog 69 #[.slice a l.length c, .string ⟨s.toArray⟩] w (TreeEnd w (remL l s)) := by
  have HC := Lib.hid (refCut_any a c l s w h hl hpl hs)
  have HE := Lib.hid (show remL l s = outL (cutL l s) s from rfl)
  have hcl : (cutL l s).length ≤ 1000 := Nat.le_trans (List.length_filter_le _ _) hl
  clear h hpl
  go_enter Tryd.func69, Tryd.ntmps69
  go_wp2_with fail
  refine HC.out.mono ?_
  rintro e w1 ⟨v1, L1, rfl, hm1, ho1, hk1⟩
  obtain ⟨ta, tc, rfl, hT, _⟩ := ho1.asTree hm1
  have HT := Lib.hid hT
  have HK1 := Lib.hid hk1
  clear hm1 ho1 hk1 hT HC
  generalize cutL l s = T at *
  go_wp2_with fail
  go_loopw [5, 7] (fun u v wr => ∃ (i : Nat) (L : List ItemP), v = .int .i64 i ∧ i ≤ T.length ∧ Hid (L.map (·.x) = outL (T.take i) s) ∧ Hid (L.length ≤ i) ∧ Hid (OwnT wr w1.heap.size u L) ∧ Hid (Kp (fun _ => False) w1 wr)) (fun _ v _ => T.length - (intOf v).toNat)
  case atStart => exact ⟨0, [], rfl, Nat.zero_le _, Lib.hid rfl, Lib.hid (Nat.zero_le _), Lib.hid (OwnT.nil _ _), Lib.hid (Kp.refl _ _)⟩
  case round =>
    obtain ⟨i, L, rfl, hil, HL, HLL, HO, HK⟩ := hrel
    by_cases hlt : i < T.length
    · obtain ⟨b, off, ad, cp, rfl, hx0⟩ := HT.out i hlt
      have hx := hx0.keep HK.out
      obtain ⟨d0, d1, d2, d3, d4, _, _, _⟩ := hx
      have HOk := Lib.hid (show (ItemP.mk T[i] ad cp).Ok wr from ⟨(hx0.keep HK.out).sl, hx0.time, hx0.len⟩)
      have HLt := Lib.hid (show 0 < T[i].bs.length → ∀ b, blk ad = some b → b < w1.heap.size from fun hpos b hb => hx0.sl.blk_in hpos hb)
      have HCT := Lib.hid (outL_take T s i hlt)
      clear hx0
      by_cases hb : T[i].path = s
      · have hbb : (T[i].path == s) = true := by simp [hb]
        have HC2 := Lib.hid (show outL (T.take (i + 1)) s = outL (T.take i) s from by rw [HCT.out, if_pos hb])
        clear HCT hb
        go_wp2
        exact ⟨⟨i + 1, L, by go_num, by omega, Lib.hid (by rw [HC2.out]; exact HL.out), Lib.hid (by have := HLL.out; omega), HO, HK⟩, by simp only [intOf]; omega⟩
      · have hbb : (T[i].path == s) = false := by simpa using hb
        have HC2 := Lib.hid (show outL (T.take (i + 1)) s = outL (T.take i) s ++ [T[i]] from by rw [HCT.out, if_neg hb])
        have ka : Kp (fun _ => False) wr (wr.alloc (.cells #[.string ⟨T[i].path.toArray⟩, .int .i64 T[i].kind, .int .i64 T[i].mode, .float .f64 T[i].time, .slice ad T[i].bs.length cp] 44)) := (Kp.refl _ wr).alloc _
        have HOA := Lib.hid (HO.out.keep ka)
        have HOkA := Lib.hid (HOk.out.keep ka)
        have HGA := Lib.hid (hp_new wr (.cells #[.string ⟨T[i].path.toArray⟩, .int .i64 T[i].kind, .int .i64 T[i].mode, .float .f64 T[i].time, .slice ad T[i].bs.length cp] 44))
        have HKA := Lib.hid (HK.out.trans ka)
        have HSP := Lib.hid (show 0 < (ItemP.mk T[i] ad cp).x.bs.length → ∀ b, blk (ItemP.mk T[i] ad cp).ad = some b → u5.ownBlock ≠ some b from fun hp b hb e => by have h1 := (HO.out.lt b e).1; have h2 := HLt.out hp b hb; omega)
        clear HCT ka HO HOk HLt HK hb
        go_wp2_with (at_builtin; refine wpList_append_item rfl w1.heap.size (.tmp 24) (.tmp 29) rfl u5 L rfl HOA.out (by have := HKA.out.size; exact this) ⟨T[i], ad, cp⟩ HOkA.out HSP.out wr.heap.size rfl 44 (0, 0) HGA.out (by have := HLL.out; omega) ?_)
        intro v' w' hown' hk'
        have HO' := Lib.hid hown'
        have HK' := Lib.hid (HKA.out.step hk' (fun k hk h => by have := (HOA.out.lt k h).1; omega))
        clear hown' hk'
        go_wp2
        exact ⟨⟨i + 1, L ++ [⟨T[i], ad, cp⟩], by go_num, by omega, Lib.hid (by rw [HC2.out, List.map_append, HL.out]; rfl), Lib.hid (by have := HLL.out; simp; omega), HO', HK'⟩, by simp only [intOf]; omega⟩
    · have HR := Lib.hid (show outL (T.take i) s = outL T s from by rw [List.take_of_length_le (by omega)])
      go_wp2
      go_ret
      exact ⟨u5, L, rfl, by rw [HL.out, HR.out, HE.out], HO.out.from_ HK1.out.size, HK1.out.trans HK.out⟩
end Go.Proofs.YtgpidbdgodgefaaDoor
