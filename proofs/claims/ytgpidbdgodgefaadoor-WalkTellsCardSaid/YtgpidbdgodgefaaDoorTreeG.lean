/- The document's trees: the contracts of Get, IsDir and below. Conditions: as the theorems name them. -/
import Derived.Test.YtgpidbdgodgefaaDoorTreeM
import Derived.Test.YtgpidbdgodgefaaDoorTreeOk
import Derived.Deep.CutRange
import Derived.Deep.CutBlock
namespace Go.Proofs.YtgpidbdgodgefaaDoor
open Go.RowKit Go.Deep

/-- A tree that the call has made. -/
def TreeEnd (w : World) (R : List ItemV) (e : Ending) (w' : World) : Prop :=
  ∃ v L, e = .returned v ∧ L.map (·.x) = R ∧ OwnT w' w.heap.size v L ∧ Kp (fun _ => False) w w'
/-- What is there, or nothing. -/
def RGetEnd (w : World) (o : Option ItemV) (e : Ending) (w' : World) : Prop :=
  ∃ (n : NodeV) (a : Option Addr) (c : Nat), e = .returned (.tuple #[nodeVal n a c, .bool o.isSome]) ∧ (∀ x, o = some x → n = x.node) ∧ (o = none → n = ⟨0, 0, 0, []⟩) ∧ NAt w' n a c ∧ (0 < n.bs.length → ∀ b, blk a = some b → b < w.heap.size) ∧ Kp (fun _ => False) w w'

theorem look_take (l : List ItemV) (p : List UInt8) (i : Nat) (hi : i < l.length) (h : lookT (l.take i) p = none) : lookT (l.take (i + 1)) p = if l[i].path = p then some l[i] else none := by
  unfold lookT at h ⊢
  rw [List.take_succ_eq_append_getElem hi, List.find?_append, h]
  by_cases hc : l[i].path = p <;> simp [hc]
theorem look_hit (l : List ItemV) (p : List UInt8) (i : Nat) (hi : i < l.length) (h : lookT (l.take i) p = none) (hp : l[i].path = p) : lookT l p = some l[i] := by
  unfold lookT at h ⊢
  have e : l = l.take i ++ l[i] :: l.drop (i + 1) := by rw [← List.drop_eq_getElem_cons hi, List.take_append_drop]
  conv => lhs; arg 2; rw [e]
  rw [List.find?_append, h, List.find?_cons]
  simp [hp]

set_option maxHeartbeats 4000000 in
set_option maxRecDepth 100000 in
theorem refGet_any (a : Option Addr) (c : Nat) (l : List ItemV) (s : List UInt8) (w : World) (h : TreeAt w a l) (hl : l.length ≤ 4611686018427387903) :
    Calls Tryd.prog 47 #[.slice a l.length c, .string ⟨s.toArray⟩] w (RGetEnd w (lookT l s)) := by
  have k0 : Kp (fun _ => False) w (w.alloc (.cells #[.int .i64 0, .int .i64 0, .float .f64 0, .slice none 0 0] 42)) := (Kp.refl _ w).alloc _
  have HN := Lib.hid (hp_new w (.cells #[.int .i64 0, .int .i64 0, .float .f64 0, .slice none 0 0] 42))
  have HK0 := Lib.hid k0
  have HT := Lib.hid h
  clear h k0
  have hsf : ∀ (a : Addr) (b : Nat) (m : Mode) (w : World), (store a (.float .f64 b) m).run Tryd.prog w = stored Tryd.prog w a (.float .f64 b) m := fun a b m w => run_store _ w a _ m rfl
  go_enter Tryd.func47, Tryd.ntmps47
  go_wp2_with fail
  go_loopw [6] (fun v wr => ∃ i : Nat, v = .int .i64 i ∧ i ≤ l.length ∧ Hid (lookT (l.take i) s = none) ∧ Hid (wr.heap[w.heap.size]? = some (.cells #[.int .i64 0, .int .i64 0, .float .f64 0, .slice none 0 0] 42 (0, 0))) ∧ Hid (Kp (fun _ => False) w wr)) (fun v _ => l.length - (intOf v).toNat)
  case atStart => exact ⟨0, rfl, Nat.zero_le _, Lib.hid rfl, HN, HK0⟩
  case round =>
    obtain ⟨i, rfl, hil, HL, HNr, HK⟩ := hrel
    clear HN HK0
    obtain ⟨⟨p0, p1, p2, p3⟩, ⟨l0, l1, l2, l3⟩, lt3⟩ := cell_fr HNr.out
    by_cases hlt : i < l.length
    · obtain ⟨b, off, ad, cp, rfl, hx0⟩ := HT.out i hlt
      have hx := hx0.keep HK.out
      obtain ⟨d0, d1, d2, d3, d4, _, _, _⟩ := hx
      have HX := Lib.hid (hx0.keep HK.out)
      have HX0 := Lib.hid hx0
      clear hx0
      by_cases hp : l[i].path = s
      · have HR := Lib.hid (look_hit l s i hlt HL.out hp)
        go_wp2
        obtain ⟨hl4, hk4⟩ := node_laid HNr.out l[i].node ad cp (fun _ => False) w (.inr (Nat.le_refl _)) HK.out
        obtain ⟨_, hk5⟩ := node_laid HNr.out l[i].node ad cp (fun b => b = w.heap.size) _ (.inl rfl) (Kp.refl _ _)
        obtain ⟨y0, y1, y2, y3⟩ := cell_four hl4
        dsimp only [ItemV.node] at y0 y1 y2 y3
        refine bodyPost_ret (v := .tuple #[.agg #[.int .i64 l[i].kind, .int .i64 l[i].mode, .float .f64 l[i].time, .slice ad l[i].bs.length cp], .bool true]) (by simp [results, Tryd.results47, go_sem, y0, y1, y2, y3]) rfl ?_
        rw [HR.out]
        refine ⟨l[i].node, ad, cp, rfl, fun x h => (by cases h; rfl), fun h => (by cases h), ⟨HX.out.sl.keepE hk5 (fun hpos b hb h => ?_), HX.out.time, HX.out.len⟩, fun hpos b hb => HX0.out.sl.blk_in hpos hb, hk4⟩
        have := HX0.out.sl.blk_in hpos hb
        omega
      · have HR := Lib.hid (show lookT (l.take (i + 1)) s = none from by rw [look_take l s i hlt HL.out, if_neg hp])
        have hb : (l[i].path == s) = false := by simpa using hp
        go_wp2
        exact ⟨⟨i + 1, by go_num, by omega, HR, HNr, HK⟩, by simp only [intOf]; omega⟩
    · have HR := Lib.hid (show lookT l s = none from by have h5 := HL.out; rwa [List.take_of_length_le (by omega)] at h5)
      go_wp2
      obtain ⟨hl4, hk4⟩ := node_laid HNr.out ⟨0, 0, 0, []⟩ none 0 (fun _ => False) w (.inr (Nat.le_refl _)) HK.out
      obtain ⟨y0, y1, y2, y3⟩ := cell_four hl4
      dsimp only [List.length_nil] at y0 y1 y2 y3 hk4
      refine bodyPost_ret (v := .tuple #[.agg #[.int .i64 0, .int .i64 0, .float .f64 0, .slice none 0 0], .bool false]) (by simp [results, Tryd.results47, go_sem, y0, y1, y2, y3]) rfl ?_
      rw [HR.out]
      exact ⟨⟨0, 0, 0, []⟩, none, 0, rfl, fun x h => (by cases h), fun _ => rfl, ⟨Sl.nil _, by decide, by decide⟩, fun _ b h => (by cases h), hk4⟩

set_option maxHeartbeats 2000000 in
theorem refIsDir_any (a : Option Addr) (c : Nat) (l : List ItemV) (s : List UInt8) (w : World) (h : TreeAt w a l) (hl : l.length ≤ 4611686018427387903) :
    Calls Tryd.prog 48 #[.slice a l.length c, .string ⟨s.toArray⟩] w fun e w' => e = .returned (.bool (dirL l s)) ∧ Kp (fun _ => False) w w' := by
  have HC := Lib.hid (refGet_any a c l s w h hl)
  have HR := Lib.hid (show dirL l s = (s.isEmpty || match lookT l s with | some x => x.kind == 2 | none => false) from rfl)
  clear h
  go_enter Tryd.func48, Tryd.ntmps48
  go_wp2_with fail
  refine HC.out.mono ?_
  rintro e w1 ⟨n, na, nc, rfl, hn1, hn2, _, _, hk⟩
  have hsf : ∀ (a : Addr) (b : Nat) (m : Mode) (w : World), (store a (.float .f64 b) m).run Tryd.prog w = stored Tryd.prog w a (.float .f64 b) m := fun a b m w => run_store _ w a _ m rfl
  have HK := Lib.hid hk
  rw [nodeVal]
  clear hk HC
  cases he : s.isEmpty with
  | true =>
    go_wp2
    go_ret
    rw [HR.out, he]
    exact ⟨rfl, HK.out.alloc _⟩
  | false =>
    cases ho : lookT l s with
    | none =>
      go_wp2
      go_ret
      rw [HR.out, he, ho]
      exact ⟨rfl, HK.out.alloc _⟩
    | some x =>
      have e := hn1 x ho
      subst e
      go_wp2
      go_ret
      rw [HR.out, he, ho]
      exact ⟨rfl, HK.out.alloc _⟩

theorem cutL_take (l : List ItemV) (p : List UInt8) (i : Nat) (hi : i < l.length) : cutL (l.take (i + 1)) p = if belowB p l[i].path = true then cutL (l.take i) p else cutL (l.take i) p ++ [l[i]] := by
  unfold cutL
  rw [List.take_succ_eq_append_getElem hi, List.filter_append]
  by_cases hc : belowB p l[i].path = true <;> simp [hc]

set_option maxHeartbeats 4000000 in
set_option maxRecDepth 100000 in
theorem refCut_any (a : Option Addr) (c : Nat) (l : List ItemV) (s : List UInt8) (w : World) (h : TreeAt w a l) (hl : l.length ≤ 1000) (hpl : ∀ x ∈ l, x.path.length ≤ 1000) (hs : s.length ≤ 1000) :
    Calls Tryd.prog 66 #[.slice a l.length c, .string ⟨s.toArray⟩] w (TreeEnd w (cutL l s)) := by
  have HT := Lib.hid h
  have HPL := Lib.hid hpl
  clear h hpl
  go_enter Tryd.func66, Tryd.ntmps66
  go_wp2_with fail
  go_loopw [5, 6] (fun u v wr => ∃ (i : Nat) (L : List ItemP), v = .int .i64 i ∧ i ≤ l.length ∧ Hid (L.map (·.x) = cutL (l.take i) s) ∧ Hid (L.length ≤ i) ∧ Hid (OwnT wr w.heap.size u L) ∧ Hid (Kp (fun _ => False) w wr)) (fun _ v _ => l.length - (intOf v).toNat)
  case atStart => exact ⟨0, [], rfl, Nat.zero_le _, Lib.hid rfl, Lib.hid (Nat.zero_le _), Lib.hid (OwnT.nil _ _), Lib.hid (Kp.refl _ _)⟩
  case round =>
    obtain ⟨i, L, rfl, hil, HL, HLL, HO, HK⟩ := hrel
    by_cases hlt : i < l.length
    · obtain ⟨b, off, ad, cp, rfl, hx0⟩ := HT.out i hlt
      have hx := hx0.keep HK.out
      obtain ⟨d0, d1, d2, d3, d4, _, _, _⟩ := hx
      have HOk := Lib.hid (show (ItemP.mk l[i] ad cp).Ok wr from ⟨(hx0.keep HK.out).sl, hx0.time, hx0.len⟩)
      have HLt := Lib.hid (show 0 < l[i].bs.length → ∀ b, blk ad = some b → b < w.heap.size from fun hpos b hb => hx0.sl.blk_in hpos hb)
      have HCT := Lib.hid (cutL_take l s i hlt)
      have hpi := HPL.out l[i] (List.getElem_mem hlt)
      clear hx0
      go_wp2_with fail
      refine (refBelow_any s l[i].path wr (by omega) (by omega)).mono ?_
      rintro e w2 ⟨rfl, rfl⟩
      cases hb : belowB s l[i].path with
      | true =>
        have HC2 := Lib.hid (show cutL (l.take (i + 1)) s = cutL (l.take i) s from by rw [HCT.out, if_pos hb])
        clear HCT
        go_wp2
        exact ⟨⟨i + 1, L, by go_num, by omega, Lib.hid (by rw [HC2.out]; exact HL.out), Lib.hid (by have := HLL.out; omega), HO, HK⟩, by simp only [intOf]; omega⟩
      | false =>
        have HC2 := Lib.hid (show cutL (l.take (i + 1)) s = cutL (l.take i) s ++ [l[i]] from by rw [HCT.out, if_neg (by rw [hb]; decide)])
        have ka : Kp (fun _ => False) wr (wr.alloc (.cells #[.string ⟨l[i].path.toArray⟩, .int .i64 l[i].kind, .int .i64 l[i].mode, .float .f64 l[i].time, .slice ad l[i].bs.length cp] 44)) := (Kp.refl _ wr).alloc _
        have HOA := Lib.hid (HO.out.keep ka)
        have HOkA := Lib.hid (HOk.out.keep ka)
        have HGA := Lib.hid (hp_new wr (.cells #[.string ⟨l[i].path.toArray⟩, .int .i64 l[i].kind, .int .i64 l[i].mode, .float .f64 l[i].time, .slice ad l[i].bs.length cp] 44))
        have HKA := Lib.hid (HK.out.trans ka)
        have HSZ := Lib.hid HK.out.size
        have HSP := Lib.hid (show 0 < (ItemP.mk l[i] ad cp).x.bs.length → ∀ b, blk (ItemP.mk l[i] ad cp).ad = some b → u5.ownBlock ≠ some b from fun hp b hb e => by have h1 := (HO.out.lt b e).1; have h2 := HLt.out hp b hb; omega)
        clear HCT ka HO HOk HLt HK
        go_wp2_with (at_builtin; refine wpList_append_item rfl w.heap.size (.tmp 21) (.tmp 26) rfl u5 L rfl HOA.out (by have := HKA.out.size; exact this) ⟨l[i], ad, cp⟩ HOkA.out HSP.out wr.heap.size rfl 44 (0, 0) HGA.out (by have := HLL.out; omega) ?_)
        intro v' w' hown' hk'
        have HO' := Lib.hid hown'
        have HK' := Lib.hid (HKA.out.step hk' (fun k hk h => by have := (HOA.out.lt k h).1; omega))
        clear hown' hk'
        go_wp2
        exact ⟨⟨i + 1, L ++ [⟨l[i], ad, cp⟩], by go_num, by omega, Lib.hid (by rw [HC2.out, List.map_append, HL.out]; rfl), Lib.hid (by have := HLL.out; simp; omega), HO', HK'⟩, by simp only [intOf]; omega⟩
    · have HR := Lib.hid (show cutL (l.take i) s = cutL l s from by rw [List.take_of_length_le (by omega)])
      go_wp2
      go_ret
      exact ⟨u5, L, rfl, by rw [HL.out, HR.out], HO.out, HK.out⟩
end Go.Proofs.YtgpidbdgodgefaaDoor
