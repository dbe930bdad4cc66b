/- Trees in memory; the contract of the search by path. Conditions: as the theorems name them. -/
import Derived.Test.YtgpidbdgodgefaaDoorIsPath
import Derived.Test.YtgpidbdgodgefaaDoorShelf2
namespace Go.Proofs.YtgpidbdgodgefaaDoor
open Go.RowKit

/-- An item: a path and a node. -/
structure ItemV where
  path : List UInt8
  kind : Int
  mode : Int
  time : Nat
  bs : List UInt8
/-- An item's cells. -/
structure ItemAt (w : World) (b off : Nat) (x : ItemV) (ad : Option Addr) (cp : Nat) : Prop where
  c0 : w.cell? ⟨b, off, none⟩ = some (.string ⟨x.path.toArray⟩)
  c1 : w.cell? ⟨b, off + 1, none⟩ = some (.int .i64 x.kind)
  c2 : w.cell? ⟨b, off + 2, none⟩ = some (.int .i64 x.mode)
  c3 : w.cell? ⟨b, off + 3, none⟩ = some (.float .f64 x.time)
  c4 : w.cell? ⟨b, off + 4, none⟩ = some (.slice ad x.bs.length cp)
  sl : Sl w (.slice ad x.bs.length cp) ad cp x.bs
  time : x.time < 18446744073709551616
  len : x.bs.length ≤ 140737488355328
theorem ItemAt.keep {w w' : World} {b off : Nat} {x : ItemV} {ad : Option Addr} {cp : Nat} (h : ItemAt w b off x ad cp) (k : Kp (fun _ => False) w w') : ItemAt w' b off x ad cp :=
  ⟨k.cell h.c0 id, k.cell h.c1 id, k.cell h.c2 id, k.cell h.c3 id, k.cell h.c4 id, h.sl.keep k (fun _ _ => id), h.time, h.len⟩
/-- A tree's items lie one behind the other. -/
def TreeAt (w : World) (a : Option Addr) (l : List ItemV) : Prop := ∀ i (h : i < l.length), ∃ b off ad cp, a = some ⟨b, off, none⟩ ∧ ItemAt w b (off + i * 5) l[i] ad cp
theorem TreeAt.keep {w w' : World} {a : Option Addr} {l : List ItemV} (h : TreeAt w a l) (k : Kp (fun _ => False) w w') : TreeAt w' a l := fun i hi => by
  obtain ⟨b, off, ad, cp, e, hx⟩ := h i hi
  exact ⟨b, off, ad, cp, e, hx.keep k⟩

/-- By halves. -/
def bsT (l : List ItemV) (s : List UInt8) : Nat → Nat → Nat → Nat
  | 0, i, _ => i
  | f + 1, i, j => if i < j then (if Lib.compareBytes (l.getD ((i + j) / 2) ⟨[], 0, 0, 0, []⟩).path s < 0 then bsT l s f ((i + j) / 2 + 1) j else bsT l s f i ((i + j) / 2)) else i
theorem bsT_done (l : List ItemV) (s : List UInt8) (f i j : Nat) (h : ¬ i < j) : bsT l s f i j = i := by
  cases f with
  | zero => rfl
  | succ f => rw [bsT, if_neg h]
def findI (l : List ItemV) (s : List UInt8) : Nat := bsT l s (l.length + 1) 0 l.length
def foundB (l : List ItemV) (s : List UInt8) : Bool := match l[findI l s]? with
  | some x => Lib.compareBytes x.path s == 0
  | none => false

set_option maxHeartbeats 1000000 in
theorem find1_any (x : ItemV) (ad : Option Addr) (cp : Nat) (s : List UInt8) (w : World) :
    Calls Tryd.prog 115 #[.agg #[.string ⟨x.path.toArray⟩, .int .i64 x.kind, .int .i64 x.mode, .float .f64 x.time, .slice ad x.bs.length cp], .string ⟨s.toArray⟩] w fun e w' => e = .returned (.int .i64 (Lib.compareBytes x.path s)) ∧ Kp (fun _ => False) w w' := by
  go_enter Tryd.func115, Tryd.ntmps115
  go_wp2_with fail
  refine ((Tryd.strings_Compare ⟨x.path.toArray⟩ ⟨s.toArray⟩ _).mono (fun _ _ h => (⟨h.1, h.2.symm⟩ : _ = Ending.returned (.int .i64 (Lib.compareBytes x.path s)) ∧ _))).mono ?_
  rintro e w' ⟨rfl, rfl⟩
  go_wp2
  go_ret
  exact ⟨rfl, (Kp.refl _ w).alloc _⟩

set_option maxHeartbeats 2000000 in
set_option maxRecDepth 100000 in
theorem find_any (a : Option Addr) (c : Nat) (l : List ItemV) (s : List UInt8) (w : World) (h : TreeAt w a l) (hl : l.length ≤ 4611686018427387903) :
    Calls Tryd.prog 114 #[.slice a l.length c, .string ⟨s.toArray⟩, .func (.func 115) #[] #[]] w fun e w' => e = .returned (.tuple #[.int .i64 (findI l s), .bool (foundB l s)]) ∧ Kp (fun _ => False) w w' := by
  go_enter Tryd.func114, Tryd.ntmps114
  have HT := Lib.hid h
  clear h
  go_wp2_with fail
  go_loopw [9, 10] (fun u v wr => ∃ i j f : Nat, u = .int .i64 i ∧ v = .int .i64 j ∧ i ≤ j ∧ j ≤ l.length ∧ j - i ≤ f ∧ Hid (bsT l s (f + 1) i j = findI l s) ∧ Hid (Kp (fun _ => False) w wr)) (fun u v _ => (intOf v).toNat - (intOf u).toNat)
  case atStart => exact ⟨0, l.length, l.length, rfl, rfl, Nat.zero_le _, Nat.le_refl _, Nat.le_refl _, Lib.hid rfl, Lib.hid (Kp.refl _ _)⟩
  case round =>
    obtain ⟨i, j, f, rfl, rfl, hij, hjl, hf, HB, HK⟩ := hrel
    by_cases hlt : i < j
    · have hm : (i + j) / 2 < l.length := by omega
      obtain ⟨b, off, ad, cp, rfl, hx⟩ := HT.out ((i + j) / 2) hm
      have hx2 := hx.keep HK.out
      have HF := Lib.hid (show (if Lib.compareBytes l[(i + j) / 2].path s < 0 then bsT l s f ((i + j) / 2 + 1) j else bsT l s f i ((i + j) / 2)) = findI l s from by
        rw [← HB.out, bsT, if_pos hlt]; simp only [List.getD_eq_getElem?_getD, List.getElem?_eq_getElem hm, Option.getD_some])
      obtain ⟨f', rfl⟩ : ∃ f', f = f' + 1 := ⟨f - 1, by omega⟩
      obtain ⟨d0, d1, d2, d3, d4, _, _, _⟩ := hx2
      clear hx
      go_wp2_with fail
      refine ((find1_any l[(i+j)/2] ad cp s _)).mono ?_
      rintro e w2 ⟨rfl, HK2⟩
      have HK3 := Lib.hid (HK.out.trans HK2)
      by_cases hc : Lib.compareBytes l[(i+j)/2].path s < 0
      · go_wp2_with fail
        refine ⟨⟨(i + j) / 2 + 1, j, f', by congr 1, rfl, by omega, hjl, by omega, Lib.hid ?_, HK3⟩, by simp only [intOf]; omega⟩
        have h5 := HF.out
        rw [if_pos hc] at h5
        exact h5
      · go_wp2_with fail
        refine ⟨⟨i, (i + j) / 2, f', rfl, by congr 1, by omega, by omega, by omega, Lib.hid ?_, HK3⟩, by simp only [intOf]; omega⟩
        have h5 := HF.out
        rw [if_neg (by omega)] at h5
        exact h5
    · have HF := Lib.hid (show i = findI l s from by rw [← HB.out, bsT_done l s _ i j hlt])
      have HZ := Lib.hid (show foundB l s = match l[i]? with | some x => Lib.compareBytes x.path s == 0 | none => false from by rw [foundB, ← HF.out])
      by_cases hlt2 : i < l.length
      · obtain ⟨b, off, ad, cp, rfl, hx⟩ := HT.out i hlt2
        have hx2 := hx.keep HK.out
        obtain ⟨d0, d1, d2, d3, d4, _, _, _⟩ := hx2
        clear hx
        go_wp2_with fail
        refine ((find1_any l[i] ad cp s _)).mono ?_
        rintro e w2 ⟨rfl, HK2⟩
        have HK3 := Lib.hid (HK.out.trans HK2)
        have hG := Lib.hid (show foundB l s = (Lib.compareBytes l[i].path s == 0) from by rw [HZ.out, List.getElem?_eq_getElem hlt2])
        by_cases hc : Lib.compareBytes l[i].path s = 0
        · go_wp2_with fail
          go_ret2
          refine ⟨?_, HK3.out⟩
          rw [← HF.out, hG.out, hc]; rfl
        · go_wp2_with fail
          go_ret2
          refine ⟨?_, HK3.out⟩
          rw [← HF.out, hG.out, beq_eq_false_iff_ne.2 hc]; rfl
      · have hG := Lib.hid (show foundB l s = false from by rw [HZ.out, List.getElem?_eq_none (by omega)])
        have hil : i = l.length := by omega
        go_wp2_with fail
        go_ret2
        refine ⟨?_, HK.out⟩
        rw [← HF.out, hG.out, hil]; rfl
end Go.Proofs.YtgpidbdgodgefaaDoor
