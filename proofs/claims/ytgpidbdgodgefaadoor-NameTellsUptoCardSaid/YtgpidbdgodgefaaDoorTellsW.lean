/- The walk of NameTells: it answers true and turns nothing that was there. Conditions: as the theorems name them. -/
import Derived.Test.YtgpidbdgodgefaaDoorTells3
import Derived.Deep.QuietTactic
import Derived.BigQuiet
namespace Go.Proofs.YtgpidbdgodgefaaDoor
open Go.RowKit Go.Deep

/-- What Split says. -/
def Sp (s : List UInt8) (L : List (List UInt8)) (f : Int) : Prop := (errN s = 0 ∧ L = segs (cutB s) ∧ f = 0) ∨ (errN s ≠ 0 ∧ L = [] ∧ f = errN s)
theorem Sp.uniq {s : List UInt8} {L L' : List (List UInt8)} {f f' : Int} (h : Sp s L f) (h' : Sp s L' f') : L' = L ∧ f' = f := by
  rcases h with ⟨a, rfl, rfl⟩ | ⟨a, rfl, rfl⟩ <;> rcases h' with ⟨b, rfl, rfl⟩ | ⟨b, rfl, rfl⟩
  · exact ⟨rfl, rfl⟩
  · exact absurd a b
  · exact absurd b a
  · exact ⟨rfl, rfl⟩
def Split2End (w : World) (s : List UInt8) (e : Ending) (w' : World) : Prop :=
  ∃ a c L f, e = .returned (.tuple #[.slice a (List.length L) c, .int .i64 f]) ∧ Sp s L f ∧ (∀ k (hk : k < L.length), ∃ b, a = some ⟨b, 0, none⟩ ∧ w'.cell? ⟨b, k, none⟩ = some (strV L[k])) ∧ Kp (fun _ => False) w w'
theorem split2 {w w' : World} {s : List UInt8} {e : Ending} (h : SplitEnd w s e w') : Split2End w s e w' := by
  obtain ⟨hk, ⟨h0, v, rfl, hown⟩ | ⟨h0, rfl⟩⟩ := h
  · obtain ⟨a, c, rfl⟩ : ∃ a c, v = .slice a (segs (cutB s)).length c := by
      obtain ⟨_, ⟨rfl, h0⟩ | ⟨b, cap, cur, rfl, _⟩⟩ := hown
      · exact ⟨none, 0, by rw [h0]⟩
      · exact ⟨_, _, rfl⟩
    refine ⟨a, c, segs (cutB s), 0, rfl, .inl ⟨h0, rfl, rfl⟩, fun k hk => ?_, hk⟩
    obtain ⟨b, c', hv⟩ := owns_some hown (by omega)
    simp only [Value.slice.injEq] at hv
    obtain ⟨rfl, _, _⟩ := hv
    refine ⟨b, rfl, ?_⟩
    rw [World.ownsRow.cellAt hown k (by omega)]
    simp [hk]
  · exact ⟨none, 0, [], errN s, rfl, .inr ⟨h0, rfl, rfl⟩, fun k hk => absurd hk (by simp), hk⟩
theorem Sp.len {s : List UInt8} {L : List (List UInt8)} {f : Int} (h : Sp s L f) : L.length ≤ s.length + 1 := by
  rcases h with ⟨_, rfl, _⟩ | ⟨_, rfl, _⟩
  · have h1 := segs_le (cutB s)
    rw [cutB_len] at h1
    have := List.count_le_length (a := 47) (l := s)
    omega
  · exact Nat.zero_le _

set_option maxHeartbeats 6000000 in
set_option maxRecDepth 100000 in
theorem nameTells_any (ta : Option Addr) (tl tc : Nat) (g : Nat → Int) (raw : List UInt8) (any : Bool) (ua : Option Addr) (ul uc : Nat) (g2 : Nat → Int) (m : Int) (w : World)
    (hg : ∀ i, -9223372036854775808 ≤ g i ∧ g i ≤ 9223372036854775807) (htl : tl ≤ 9223372036854775807) (hat : ∀ i, i < tl → ∃ b off, ta = some ⟨b, off, none⟩ ∧ w.cell? ⟨b, off + i, none⟩ = some (.int .i64 (g i)))
    (hraw : raw.length ≤ 1048576)
    (hg2 : ∀ i, -9223372036854775808 ≤ g2 i ∧ g2 i ≤ 9223372036854775807) (hul : ul ≤ 9223372036854775807) (hat2 : ∀ i, i < ul → ∃ b off, ua = some ⟨b, off, none⟩ ∧ w.cell? ⟨b, off + i, none⟩ = some (.int .i64 (g2 i))) (hm : w.cell? ⟨0, 0, none⟩ = some (.int .i64 m)) :
    Calls Tryd.prog 5 #[.slice ta tl tc, .string ⟨raw.toArray⟩, .bool any, .slice ua ul uc] w fun e w' => e = .returned (.bool true) ∧ Kp (fun _ => False) w w' := by
  have HM := Lib.hid hm
  have HT1 := Lib.hid (text_any ta tl tc g w hg htl hat)
  have HT2 := Lib.hid (text_any ua ul uc g2 w hg2 hul hat2)
  clear hm hg htl hat hg2 hul hat2
  go_enter Tryd.func5, Tryd.ntmps5
  go_wp2_with fail
  refine HT1.out.mono ?_
  rintro e w' ⟨⟨xs, rfl, hxl⟩, rfl⟩
  clear HT1
  go_upto_if 18 with fail
  go_cut [9] from 19 to 19 (fun s9 wx => ∃ s : List UInt8, s9 = .string ⟨s.toArray⟩ ∧ s.length ≤ 1048576 ∧ wx = w)
  case first =>
    cases any with
    | true =>
      go_wp2_with fail
      go_meet
      exact ⟨raw, rfl, hraw, rfl⟩
    | false =>
      go_wp2_with fail
      go_meet
      exact ⟨xs, rfl, by omega, rfl⟩
  obtain ⟨s, rfl, hsl, rfl⟩ := hcut
  clear hxl hraw
  go_wp2_with fail
  refine HT2.out.mono ?_
  rintro e w' ⟨⟨q, rfl, hql⟩, rfl⟩
  clear HT2
  go_wp2_with fail
  refine (nsplit_any s m wc (by omega) HM.out).mono ?_
  rintro e w2 hsp
  obtain ⟨a1, c1, L, f, rfl, hS, hc1, hk2⟩ := split2 hsp
  have HK2 := Lib.hid hk2; have HM2 := Lib.hid (hk2.cell HM.out id); have HC1 := Lib.hid hc1
  clear hsp hk2 hc1
  go_wp2_with fail
  refine (refSplit_any s w2 (by omega)).mono ?_
  rintro e w3 hsp
  obtain ⟨a2, c2, L', f', rfl, hS', hc2, hk3⟩ := split2 hsp
  have hLl := hS.len
  obtain ⟨rfl, rfl⟩ := hS.uniq hS'
  have HK3 := Lib.hid (HK2.out.trans hk3); have HM3 := Lib.hid (hk3.cell HM2.out id); have HC2 := Lib.hid hc2
  have HC1' : Hid (∀ k (hk : k < L'.length), ∃ b, a1 = some ⟨b, 0, none⟩ ∧ w3.cell? ⟨b, k, none⟩ = some (strV L'[k])) := fun k hk => by
    obtain ⟨b, e, hc⟩ := HC1.out k hk
    exact ⟨b, e, hk3.cell hc id⟩
  clear hsp hk3 hc2 HC1 HK2 HM2 HM hS hS'
  go_wp2_with fail
  go_loopw [15] (fun i wr => ∃ k : Nat, i = .int .i64 k ∧ k ≤ L'.length ∧ Hid (Kp (fun _ => False) w3 wr)) (fun i _ => L'.length - (intOf i).toNat)
  case atStart => exact ⟨0, rfl, Nat.zero_le _, Lib.hid (Kp.refl _ _)⟩
  case round =>
    obtain ⟨k, rfl, hk, HKr⟩ := hrel
    by_cases hlt : k < L'.length
    · obtain ⟨b1, rfl, h1⟩ := HC1'.out k hlt
      obtain ⟨b2, rfl, h2⟩ := HC2.out k hlt
      have d1 := HKr.out.cell h1 id
      have d2 := HKr.out.cell h2 id
      unfold strV at d1 d2
      clear h1 h2
      generalize L'[k] = x at *
      go_wp2_with fail
      go_quiet (fail)
      have HKq := Lib.hid (HKr.out.drewN nq)
      go_wp2
      exact ⟨⟨k + 1, by go_num, by omega, HKq⟩, by simp [intOf]; omega⟩
    · have HK4 := Lib.hid (HK3.out.trans HKr.out)
      have HM4 := Lib.hid (HKr.out.cell HM3.out id)
      clear HKr HK3 HM3 HC1' HC2
      have hjl : (joinB s q).length ≤ 1050018 := by unfold joinB; split <;> (try simp) <;> omega
      have hcat1 := run_cat s [47] (by simp; omega)
      have hcat2 := run_cat (s ++ [47]) q (by simp; omega)
      have J1 : ∀ w : World, _ := fun w => join_any s q w (by omega)
      have J2 : ∀ w : World, _ := fun w => refJoin_any s q w (by omega)
      have D1 : ∀ w : World, _ := fun w => dir_any s w (by omega)
      have D2 : ∀ w : World, _ := fun w => refDir_any s w (by omega)
      have B1 : ∀ w : World, _ := fun w => base_any s w (by omega)
      have B2 : ∀ w : World, _ := fun w => refBase_any s w (by omega)
      have L1 : ∀ w : World, _ := fun w => below_any s q w (by omega)
      have L2 : ∀ w : World, _ := fun w => refBelow_any s q w (by omega) (by omega)
      have M1 : ∀ w : World, _ := fun w => below_any s ((s ++ [47]) ++ q) w (by omega)
      have M2 : ∀ w : World, _ := fun w => refBelow_any s ((s ++ [47]) ++ q) w (by omega) (by simp; omega)
      replace J1 := Lib.hid J1; replace J2 := Lib.hid J2; replace D1 := Lib.hid D1; replace D2 := Lib.hid D2; replace B1 := Lib.hid B1; replace B2 := Lib.hid B2
      replace L1 := Lib.hid L1; replace L2 := Lib.hid L2; replace M1 := Lib.hid M1; replace M2 := Lib.hid M2
      generalize (s ++ [47]) ++ q = sq at *
      generalize s ++ [47] = s1 at *
      generalize joinB s q = js at *
      generalize dirB s = ds at *
      generalize baseB s = bs at *
      generalize belowB s q = b1 at *
      generalize belowB s sq = b2 at *
      go_wp2_with fail
      refine (known9_any m wr HM4.out).mono ?_
      rintro e w5 ⟨rfl, hk5⟩
      have HK5 := Lib.hid (HK4.out.trans hk5)
      have HM5 := Lib.hid (hk5.cell HM4.out id)
      clear hk5
      go_wp2_with fail
      refine (nright_any s w5 (by omega)).mono ?_
      rintro e w' ⟨rfl, rfl⟩
      go_wp2_with fail
      refine (refName_any s w5 (by omega)).mono ?_
      rintro e w' ⟨rfl, rfl⟩
      go_wp2_with fail
      refine (isPath_any s m w5 (by omega) HM5.out).mono ?_
      rintro e w6 ⟨rfl, hk6⟩
      have HK6 := Lib.hid (HK5.out.trans hk6)
      have HM6 := Lib.hid (hk6.cell HM5.out id)
      clear hk6
      go_wp2_with fail
      refine (refIsPath_any s w6 (by omega)).mono ?_
      rintro e w7 ⟨rfl, hk7⟩
      have HK7 := Lib.hid (HK6.out.trans hk7)
      have HM7 := Lib.hid (hk7.cell HM6.out id)
      clear hk7
      go_wp2_with fail
      refine (J1.out w7).mono ?_
      rintro e w' ⟨rfl, rfl⟩
      go_wp2_with fail
      refine (J2.out w7).mono ?_
      rintro e w' ⟨rfl, rfl⟩
      go_wp2_with fail
      refine (D1.out w7).mono ?_
      rintro e w' ⟨rfl, rfl⟩
      go_wp2_with fail
      refine (D2.out w7).mono ?_
      rintro e w' ⟨rfl, rfl⟩
      go_wp2_with fail
      refine (B1.out w7).mono ?_
      rintro e w' ⟨rfl, rfl⟩
      go_wp2_with fail
      refine (B2.out w7).mono ?_
      rintro e w' ⟨rfl, rfl⟩
      go_wp2_with fail
      refine (L1.out w7).mono ?_
      rintro e w' ⟨rfl, rfl⟩
      go_wp2_with fail
      refine (L2.out w7).mono ?_
      rintro e w' ⟨rfl, rfl⟩
      go_wp2_with fail
      refine (M1.out w7).mono ?_
      rintro e w' ⟨rfl, rfl⟩
      go_wp2_with fail
      refine (M2.out w7).mono ?_
      rintro e w' ⟨rfl, rfl⟩
      go_wp2
      go_ret
      exact ⟨rfl, HK7.out⟩
end Go.Proofs.YtgpidbdgodgefaaDoor
