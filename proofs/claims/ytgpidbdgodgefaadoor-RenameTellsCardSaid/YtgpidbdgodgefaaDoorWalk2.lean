/- Walk: its contract. Conditions: as the theorem names them. -/
import Derived.Test.YtgpidbdgodgefaaDoorWalk1
namespace Go.Proofs.YtgpidbdgodgefaaDoor
open Go.RowKit

/-- A walk, for so many steps at most. -/
def runT (l : List ItemV) (follow : Bool) : Nat → WSt → Bool → List UInt8 × Bool × Int
  | 0, s, th => (s.at_, th, 0)
  | f + 1, s, th => match s.parts with
    | [] => (s.at_, th, 0)
    | q :: r =>
      if q = [46] then runT l follow f ⟨s.at_, r, s.hops⟩ th
      else if q = [46, 46] then runT l follow f ⟨dirB s.at_, r, s.hops⟩ th
      else if (downT l follow ⟨s.at_, r, s.hops⟩ q).2.2 ≠ 0 then ([], false, (downT l follow ⟨s.at_, r, s.hops⟩ q).2.2)
      else runT l follow f (downT l follow ⟨s.at_, r, s.hops⟩ q).1 (downT l follow ⟨s.at_, r, s.hops⟩ q).2.1
def walkT (l : List ItemV) (s : List UInt8) (follow : Bool) : List UInt8 × Bool × Int :=
  if errN s ≠ 0 then ([], false, errN s) else runT l follow 2000 ⟨[], segs (cutB s), 0⟩ true
def mu (s : WSt) : Nat := (8 - s.hops) * 200 + s.parts.length
def Good (s : WSt) : Prop := s.at_.length ≤ 120 ∧ (∀ q ∈ s.parts, q.length ≤ 120) ∧ s.hops ≤ 8

theorem errN_ok {s : List UInt8} (h : errN s = 0) : s.length ≤ 120 ∧ (segs (cutB s)).length ≤ 121 ∧ ∀ q ∈ segs (cutB s), q.length ≤ 120 := by
  have h1 : s.length ≤ 120 := by
    unfold errN at h
    by_cases hc : 120 < s.length
    · rw [if_pos hc] at h; cases h
    · omega
  refine ⟨h1, ?_, fun q hq => ?_⟩
  · have e1 := segs_le (cutB s); have e2 := cutB_len s; have e3 := List.count_le_length (a := 47) (l := s); omega
  · have := cutB_small s q (List.mem_filter.1 hq).1
    omega
theorem thr_good {s : WSt} {bs : List UInt8} (h : Good s) (he : (thrT s bs).2 = 0) : Good (thrT s bs).1 ∧ mu (thrT s bs).1 ≤ mu s := by
  unfold thrT at he ⊢
  by_cases h8 : 8 < s.hops + 1
  · rw [if_pos h8] at he; cases he
  · rw [if_neg h8] at he ⊢
    by_cases hN : errN bs = 0
    · rw [if_neg (by rw [hN]; decide)]
      obtain ⟨h1, h2, h3⟩ := errN_ok hN
      refine ⟨⟨?_, fun q hq => ?_, by show s.hops + 1 ≤ 8; omega⟩, ?_⟩
      · show (if bs.head? = some 47 then [] else s.at_).length ≤ 120
        split
        · exact Nat.zero_le _
        · exact h.1
      · rcases List.mem_append.1 hq with hq | hq
        · exact h3 q hq
        · exact h.2.1 q hq
      · show (8 - (s.hops + 1)) * 200 + (segs (cutB bs) ++ s.parts).length ≤ (8 - s.hops) * 200 + s.parts.length
        rw [List.length_append]
        omega
    · rw [if_pos hN] at he; exact absurd he hN
theorem down_good {l : List ItemV} {follow : Bool} {s : WSt} {q : List UInt8} (h : Good s) (he : (downT l follow s q).2.2 = 0) : Good (downT l follow s q).1 ∧ mu (downT l follow s q).1 ≤ mu s := by
  unfold downT at he ⊢
  by_cases hd : isDirT l s.at_ = false
  · rw [if_pos hd] at he; cases he
  · rw [if_neg hd] at he ⊢
    by_cases h120 : 120 < (joinB s.at_ q).length
    · rw [if_pos h120] at he; cases he
    · rw [if_neg h120] at he ⊢
      have hgd : Good ⟨joinB s.at_ q, s.parts, s.hops⟩ := ⟨by show (joinB s.at_ q).length ≤ 120; omega, h.2.1, h.2.2⟩
      cases hg : getT l (joinB s.at_ q) with
      | none =>
        simp only [hg] at he ⊢
        by_cases hz : 0 < s.parts.length
        · rw [if_pos hz] at he; cases he
        · rw [if_neg hz]; exact ⟨hgd, Nat.le_refl _⟩
      | some x =>
        simp only [hg] at he ⊢
        by_cases hk : x.kind = 3 ∧ (0 < s.parts.length ∨ follow = true)
        · rw [if_pos hk] at he ⊢; exact thr_good h he
        · rw [if_neg hk]; exact ⟨hgd, Nat.le_refl _⟩

theorem thr_mu (s : WSt) (bs : List UInt8) : mu (thrT s bs).1 ≤ mu s := by
  unfold thrT
  by_cases h8 : 8 < s.hops + 1
  · rw [if_pos h8]
    show (8 - (s.hops + 1)) * 200 + s.parts.length ≤ (8 - s.hops) * 200 + s.parts.length
    omega
  · rw [if_neg h8]
    by_cases hN : errN bs = 0
    · rw [if_neg (by rw [hN]; decide)]
      obtain ⟨h1, h2, h3⟩ := errN_ok hN
      show (8 - (s.hops + 1)) * 200 + (segs (cutB bs) ++ s.parts).length ≤ (8 - s.hops) * 200 + s.parts.length
      rw [List.length_append]
      omega
    · rw [if_pos hN]
      show (8 - (s.hops + 1)) * 200 + s.parts.length ≤ (8 - s.hops) * 200 + s.parts.length
      omega
theorem down_mu (l : List ItemV) (follow : Bool) (s : WSt) (q : List UInt8) : mu (downT l follow s q).1 ≤ mu s := by
  unfold downT
  by_cases hd : isDirT l s.at_ = false
  · rw [if_pos hd]; exact Nat.le_refl _
  · rw [if_neg hd]
    by_cases h120 : 120 < (joinB s.at_ q).length
    · rw [if_pos h120]; exact Nat.le_refl _
    · rw [if_neg h120]
      cases hg : getT l (joinB s.at_ q) with
      | none =>
        dsimp only
        by_cases hz : 0 < s.parts.length
        · rw [if_pos hz]; exact Nat.le_refl _
        · rw [if_neg hz]; exact Nat.le_refl _
      | some x =>
        dsimp only
        by_cases hk : x.kind = 3 ∧ (0 < s.parts.length ∨ follow = true)
        · rw [if_pos hk]; exact thr_mu s x.bs
        · rw [if_neg hk]; exact Nat.le_refl _

/-- The measure, read from the walker's cells. -/
def muW (p : Nat) (w : World) : Nat := match w.cell? ⟨p, 2, none⟩, w.cell? ⟨p, 3, none⟩ with
  | some (.slice _ n _), some (.int _ h) => (8 - h.toNat) * 200 + n
  | _, _ => 0
theorem muW_at {p : Nat} {w : World} {tv : Value} {s : WSt} (h : WAt w p tv s) : muW p w = mu s := by
  obtain ⟨pa, pc, h1, _⟩ := h
  obtain ⟨_, _, c2, c3⟩ := cell_four h1
  unfold muW
  rw [c2, c3]
  simp [mu]

set_option maxHeartbeats 8000000 in
set_option maxRecDepth 100000 in
theorem Walk_any (ta : Option Addr) (tc : Nat) (l : List ItemV) (s : List UInt8) (follow : Bool) (m : Int) (w : World) (hm : w.cell? ⟨0, 0, none⟩ = some (.int .i64 m)) (hT : TreeAt w ta l) (hl : l.length ≤ 4611686018427387903) (hs : s.length ≤ 9223372036854775807) :
    Calls Tryd.prog 37 #[.slice ta l.length tc, .string ⟨s.toArray⟩, .bool follow] w fun e w' => e = .returned (.tuple #[.string ⟨(walkT l s follow).1.toArray⟩, .bool (walkT l s follow).2.1, .int .i64 (walkT l s follow).2.2]) ∧ Kp (fun _ => False) w w' := by
  obtain ⟨R, hR⟩ : ∃ R, walkT l s follow = R := ⟨_, rfl⟩
  have HR := Lib.hid hR
  have HC := Lib.hid (nsplit_any s m w hs hm)
  have HT := Lib.hid hT
  have HM := Lib.hid hm
  have hwp := World.block_lt_of_cell? _ _ hm
  rw [hR]
  clear hR hT hm
  go_enter Tryd.func37, Tryd.ntmps37
  go_wp2_with fail
  refine HC.out.mono ?_
  rintro e w1 ⟨hk, hsp⟩
  have hst : ∃ (pa : Option Addr) (pc : Nat) (ps : List (List UInt8)) (er : Int), e = .returned (.tuple #[.slice pa ps.length pc, .int .i64 er]) ∧ Ss w1 (.slice pa ps.length pc) pa pc ps ∧ (∀ b, blk pa = some b → b < w1.heap.size) ∧ Good ⟨[], ps, 0⟩ ∧ mu ⟨[], ps, 0⟩ < 2000 ∧
      (er = 0 → runT l follow 2000 ⟨[], ps, 0⟩ true = R) ∧ (er ≠ 0 → R = ([], false, er)) := by
    rcases hsp with ⟨he, v, rfl, ho⟩ | ⟨he, rfl⟩
    · obtain ⟨a, c, hss, _, hf⟩ := ss_of_owns ho
      have hv := hss.eq
      subst hv
      obtain ⟨_, e2, e3⟩ := errN_ok he
      refine ⟨a, c, segs (cutB s), 0, rfl, hss, fun b hb => (hf b hb).2, ⟨Nat.zero_le _, e3, Nat.zero_le _⟩, ?_, fun _ => ?_, fun h => absurd rfl h⟩
      · show (8 - 0) * 200 + (segs (cutB s)).length < 2000; omega
      · rw [← HR.out, walkT, if_neg (by rw [he]; decide)]
    · refine ⟨none, 0, [], errN s, rfl, Ss.nil _, fun b hb => (by cases hb), ⟨Nat.zero_le _, fun q hq => (by cases hq), Nat.zero_le _⟩, by decide, fun h => absurd h he, fun _ => ?_⟩
      rw [← HR.out, walkT, if_pos he]
  obtain ⟨pa, pc, ps, er, rfl, hss, hpb, hgd, hmu, hr1, hr2⟩ := hst
  have hK1 : Kp (fun _ => False) w (w1.alloc (.cells #[.slice ta l.length tc, .string ⟨#[]⟩, .slice pa ps.length pc, .int .i64 0] 86)) := hk.alloc _
  have hws := hk.size
  have HW : Hid (WAt (w1.alloc (.cells #[.slice ta l.length tc, .string ⟨#[]⟩, .slice pa ps.length pc, .int .i64 0] 86)) w1.heap.size (.slice ta l.length tc) ⟨[], ps, 0⟩) :=
    ⟨pa, pc, hp_new _ _, hss.keep ((Kp.refl (fun _ => False) w1).alloc _) (fun _ _ => id), fun b hb => by have := hpb b hb; omega⟩
  have HK1 := Lib.hid hK1
  have HG := Lib.hid hgd; have HMU := Lib.hid hmu; have HR1 := Lib.hid hr1; have HR2 := Lib.hid hr2
  clear hss hpb hgd hmu hr1 hr2 hK1 hsp hk HC HR
  go_wp2_with fail
  generalize w1.alloc (.cells #[.slice ta l.length tc, .string ⟨#[]⟩, .slice pa ps.length pc, .int .i64 0] 86) = w2 at *
  generalize w1.heap.size = p at *
  go_loopw [10, 12] (fun u v wr => ∃ (st : WSt) (th : Bool) (er : Int) (f : Nat), u = .int .i64 er ∧ v = .bool th ∧ Hid (WAt wr p (.slice ta l.length tc) st) ∧ Hid (er = 0 → Good st) ∧ Hid (er = 0 → mu st < f ∧ f ≤ 2000) ∧ Hid (er = 0 → runT l follow f st th = R) ∧ Hid (er ≠ 0 → R = ([], false, er)) ∧ Hid (Kp (fun _ => False) w wr)) (fun _ _ wr => muW p wr)
  case atStart => exact ⟨⟨[], ps, 0⟩, true, er, 2000, rfl, rfl, HW, Lib.hid (fun _ => HG.out), Lib.hid (fun _ => ⟨HMU.out, Nat.le_refl _⟩), HR1, HR2, HK1⟩
  case round =>
    obtain ⟨st, th, er', f, rfl, rfl, HWr, HGr, HMr, HRr, HEr, HKr⟩ := hrel
    obtain ⟨at_, parts, hops⟩ := st
    have hmw : muW p wr = mu ⟨at_, parts, hops⟩ := muW_at HWr.out
    have HMW := Lib.hid hmw
    clear hmw
    obtain ⟨pa', pc', hw1, hw2, hw3⟩ := HWr.out
    dsimp only at hw1 hw2 hw3
    obtain ⟨⟨p0, p1, p2, p3⟩, ⟨l0, l1, l2, l3⟩, lt3⟩ := cell_fr hw1
    have H1 := Lib.hid hw1; have H2 := Lib.hid hw2; have H3 := Lib.hid hw3
    clear hw1 hw2 hw3
    by_cases he0 : er' = 0
    · subst he0
      have HRR := Lib.hid (HRr.out rfl)
      replace HMr := Lib.hid (HMr.out rfl)
      replace HGr := Lib.hid (HGr.out rfl)
      clear HRr HEr
      obtain ⟨f', rfl⟩ : ∃ f', f = f' + 1 := ⟨f - 1, by have := HMr.out; omega⟩
      cases parts with
      | nil =>
        have HRQ := Lib.hid (show R = (at_, th, 0) from by rw [← HRR.out]; rfl)
        clear HRR
        go_wp2
        refine bodyPost_ret (v := .tuple #[.string ⟨at_.toArray⟩, .bool th, .int .i64 0]) (by simp [results, Tryd.results37]) rfl ?_
        rw [HRQ.out]
        exact ⟨rfl, HKr.out⟩
      | cons q r =>
        have hlp : ((q :: r).length : Int) > 0 := by simp
        obtain ⟨pb, po, rfl, hq0⟩ := H2.out.seg 0 (by simp)
        rw [show strV (q :: r)[0] = .string ⟨q.toArray⟩ from rfl, Nat.add_zero] at hq0
        have hcap := H2.out.le
        have hmx := H2.out.max
        have hmm : mu ⟨at_, q :: r, hops⟩ = mu ⟨at_, r, hops⟩ + 1 := by simp [mu]; omega
        have hqc : q = [46] ∨ q = [46, 46] ∨ (¬ q = [46] ∧ ¬ q = [46, 46]) := by
          by_cases h1 : q = [46]
          · exact .inl h1
          · by_cases h2 : q = [46, 46]
            · exact .inr (.inl h2)
            · exact .inr (.inr ⟨h1, h2⟩)
        simp only [List.length_cons] at hcap
        by_cases hc1 : pc' = 1
        · subst hc1
          obtain rfl : r = [] := List.eq_nil_of_length_eq_zero (by omega)
          have hseg : SegS wr (some ⟨pb, po, none⟩) [] := fun i hi => by
            obtain ⟨b', off', e', hc'⟩ := H2.out.seg (i + 1) (by simp; omega)
            cases e'
            omega
          have hkA : Kp (fun b => b = p) wr (wr.setCell ⟨p, 2, none⟩ (.slice (some ⟨pb, po, none⟩) 0 0)) := (Kp.refl (fun b => b = p) wr).setCell ⟨p, 2, none⟩ (.inl rfl) _
          have HKA := Lib.hid (HKr.out.setCell ⟨p, 2, none⟩ (.inr hws) (.slice (some ⟨pb, po, none⟩) 0 0))
          have hgA := set_f2 (v := .slice (some ⟨pb, po, none⟩) 0 0) H1.out
          have WA : Hid (WAt (wr.setCell ⟨p, 2, none⟩ (.slice (some ⟨pb, po, none⟩) 0 0)) p (.slice ta l.length tc) ⟨at_, [], hops⟩) :=
            ⟨some ⟨pb, po, none⟩, 0, hgA, Ss.keep ⟨rfl, (by show 0 ≤ 0; omega), by unfold maxLen at hmx ⊢; omega, fun h => (by cases h), hseg⟩ hkA (fun b hb h => H3.out b hb h), H3.out⟩
          obtain ⟨⟨q0, q1, q2, q3⟩, ⟨t0, t1, t2, t3⟩, lt4⟩ := cell_fr hgA
          have HGA := Lib.hid hgA
          clear hseg hkA hgA
          rcases hqc with rfl | rfl | ⟨hq1, hq2⟩
          · have HRN := Lib.hid (show runT l follow f' ⟨at_, [], hops⟩ th = R from by rw [← HRR.out]; rfl)
            go_wp2
            refine ⟨⟨⟨at_, [], hops⟩, th, 0, f', rfl, rfl, WA, Lib.hid fun _ => ⟨HGr.out.1, fun x hx => HGr.out.2.1 x (List.mem_cons_of_mem _ hx), HGr.out.2.2⟩, Lib.hid (fun _ => by have := HMr.out; have := hmm; omega), Lib.hid (fun _ => HRN.out), Lib.hid (fun h => absurd rfl h), HKA⟩, ?_⟩
            rw [muW_at WA.out, HMW.out]
            have := hmm
            omega
          · have HRN := Lib.hid (show runT l follow f' ⟨dirB at_, [], hops⟩ th = R from by rw [← HRR.out]; rfl)
            have hdl : (dirB at_).length ≤ 120 := by have h1 := HGr.out.1; unfold dirB; rw [List.length_take]; dsimp only at h1; omega
            have HDL := Lib.hid hdl
            clear hdl
            go_wp2_with fail
            refine (dir_any at_ _ (by have := HGr.out.1; dsimp only at this; omega)).mono ?_
            rintro e w' ⟨rfl, rfl⟩
            have hwB : WAt ((wr.setCell ⟨p, 2, none⟩ (.slice (some ⟨pb, po, none⟩) 0 0)).setCell ⟨p, 1, none⟩ (.string ⟨(dirB at_).toArray⟩)) p (.slice ta l.length tc) ⟨dirB at_, [], hops⟩ := by
              obtain ⟨x1, x2, x3, x4, x5⟩ := WA.out
              exact ⟨x1, x2, set_f1 x3, x4.keep ((Kp.refl (fun b => b = p) _).setCell ⟨p, 1, none⟩ (.inl rfl) _) (fun b hb h => x5 b hb h), x5⟩
            have HWB := Lib.hid hwB
            have HKB := Lib.hid (HKA.out.setCell ⟨p, 1, none⟩ (.inr hws) (.string ⟨(dirB at_).toArray⟩))
            clear hwB
            go_wp2
            refine ⟨⟨⟨dirB at_, [], hops⟩, th, 0, f', rfl, rfl, HWB, Lib.hid fun _ => ⟨HDL.out, fun x hx => HGr.out.2.1 x (List.mem_cons_of_mem _ hx), HGr.out.2.2⟩, Lib.hid (fun _ => by have := HMr.out; have := hmm; show mu ⟨at_, [], hops⟩ < f' ∧ f' ≤ 2000; omega), Lib.hid (fun _ => HRN.out), Lib.hid (fun h => absurd rfl h), HKB⟩, ?_⟩
            rw [muW_at HWB.out, HMW.out]
            have := hmm
            show mu ⟨at_, [], hops⟩ < mu ⟨at_, [46, 46] :: [], hops⟩
            omega
          · have HRN := Lib.hid (show (if (downT l follow ⟨at_, [], hops⟩ q).2.2 ≠ 0 then ([], false, (downT l follow ⟨at_, [], hops⟩ q).2.2) else runT l follow f' (downT l follow ⟨at_, [], hops⟩ q).1 (downT l follow ⟨at_, [], hops⟩ q).2.1) = R from by
              have h := HRR.out
              rw [runT] at h
              dsimp only at h
              rw [if_neg hq1, if_neg hq2] at h
              exact h)
            have hb1 : (q == [46]) = false := beq_eq_false_iff_ne.2 hq1
            have hb2 : (q == [46, 46]) = false := beq_eq_false_iff_ne.2 hq2
            have hgA' : Good ⟨at_, [], hops⟩ := ⟨HGr.out.1, fun x hx => HGr.out.2.1 x (List.mem_cons_of_mem _ hx), HGr.out.2.2⟩
            have hmx2 : mu ⟨at_, [], hops⟩ < 2000 := by have := HMr.out; have := hmm; omega
            have hDN := down_any p ta tc l ⟨at_, [], hops⟩ q follow m (wr.setCell ⟨p, 2, none⟩ (.slice (some ⟨pb, po, none⟩) 0 0)) (by omega) (HKA.out.cell HM.out id) (HT.out.keep HKA.out) hl WA.out (by unfold mu at hmx2; omega) (by have := hgA'.2.2; omega) (by have := hgA'.1; omega) (by have := HGr.out.2.1 q (by simp); omega)
            have HDN := Lib.hid hDN
            have HDM := Lib.hid (down_mu l follow ⟨at_, [], hops⟩ q)
            have HG2 := Lib.hid (fun he => down_good (l := l) (follow := follow) (q := q) hgA' he)
            clear hDN hgA' hmx2
            generalize downT l follow ⟨at_, [], hops⟩ q = D at *
            go_wp2_with fail
            refine HDN.out.mono ?_
            rintro e w5 ⟨rfl, hw5, hk5⟩
            have HW5 := Lib.hid hw5
            have HK5 := Lib.hid (HKA.out.step hk5 (fun i hi h => by omega))
            clear hw5 hk5 HDN
            go_wp2
            refine ⟨⟨D.1, D.2.1, D.2.2, f', rfl, rfl, HW5, Lib.hid (fun h => (HG2.out h).1), Lib.hid (fun _ => by have h1 := HDM.out; have h2 := hmm; have h3 := HMr.out; omega), Lib.hid (fun h => ?_), Lib.hid (fun h => ?_), HK5⟩, ?_⟩
            · have h1 := HRN.out
              rw [if_neg (fun h2 => h2 h)] at h1
              exact h1
            · have h1 := HRN.out
              rw [if_pos h] at h1
              exact h1.symm
            · rw [muW_at HW5.out, HMW.out]
              have h1 := HDM.out
              have h2 := hmm
              omega
        · have hc2 : ¬ (pc' - 1 = 0) := by omega
          have hseg : SegS wr (some ⟨pb, po + 1, none⟩) r := fun i hi => by
            obtain ⟨b', off', e', hc'⟩ := H2.out.seg (i + 1) (by simp; omega)
            cases e'
            exact ⟨pb, po + 1, rfl, by rw [show po + 1 + i = po + (i + 1) by omega]; exact hc'⟩
          have hkA : Kp (fun b => b = p) wr (wr.setCell ⟨p, 2, none⟩ (.slice (some ⟨pb, po + 1, none⟩) r.length (pc' - 1))) := (Kp.refl (fun b => b = p) wr).setCell ⟨p, 2, none⟩ (.inl rfl) _
          have HKA := Lib.hid (HKr.out.setCell ⟨p, 2, none⟩ (.inr hws) (.slice (some ⟨pb, po + 1, none⟩) r.length (pc' - 1)))
          have hgA := set_f2 (v := .slice (some ⟨pb, po + 1, none⟩) r.length (pc' - 1)) H1.out
          have WA : Hid (WAt (wr.setCell ⟨p, 2, none⟩ (.slice (some ⟨pb, po + 1, none⟩) r.length (pc' - 1))) p (.slice ta l.length tc) ⟨at_, r, hops⟩) :=
            ⟨some ⟨pb, po + 1, none⟩, (pc' - 1), hgA, Ss.keep ⟨rfl, (by show r.length ≤ (pc' - 1); omega), by unfold maxLen at hmx ⊢; omega, fun h => (by cases h), hseg⟩ hkA (fun b hb h => H3.out b hb h), H3.out⟩
          obtain ⟨⟨q0, q1, q2, q3⟩, ⟨t0, t1, t2, t3⟩, lt4⟩ := cell_fr hgA
          have HGA := Lib.hid hgA
          clear hseg hkA hgA
          rcases hqc with rfl | rfl | ⟨hq1, hq2⟩
          · have HRN := Lib.hid (show runT l follow f' ⟨at_, r, hops⟩ th = R from by rw [← HRR.out]; rfl)
            go_wp2
            refine ⟨⟨⟨at_, r, hops⟩, th, 0, f', rfl, rfl, WA, Lib.hid fun _ => ⟨HGr.out.1, fun x hx => HGr.out.2.1 x (List.mem_cons_of_mem _ hx), HGr.out.2.2⟩, Lib.hid (fun _ => by have := HMr.out; have := hmm; omega), Lib.hid (fun _ => HRN.out), Lib.hid (fun h => absurd rfl h), HKA⟩, ?_⟩
            rw [muW_at WA.out, HMW.out]
            have := hmm
            omega
          · have HRN := Lib.hid (show runT l follow f' ⟨dirB at_, r, hops⟩ th = R from by rw [← HRR.out]; rfl)
            have hdl : (dirB at_).length ≤ 120 := by have h1 := HGr.out.1; unfold dirB; rw [List.length_take]; dsimp only at h1; omega
            have HDL := Lib.hid hdl
            clear hdl
            go_wp2_with fail
            refine (dir_any at_ _ (by have := HGr.out.1; dsimp only at this; omega)).mono ?_
            rintro e w' ⟨rfl, rfl⟩
            have hwB : WAt ((wr.setCell ⟨p, 2, none⟩ (.slice (some ⟨pb, po + 1, none⟩) r.length (pc' - 1))).setCell ⟨p, 1, none⟩ (.string ⟨(dirB at_).toArray⟩)) p (.slice ta l.length tc) ⟨dirB at_, r, hops⟩ := by
              obtain ⟨x1, x2, x3, x4, x5⟩ := WA.out
              exact ⟨x1, x2, set_f1 x3, x4.keep ((Kp.refl (fun b => b = p) _).setCell ⟨p, 1, none⟩ (.inl rfl) _) (fun b hb h => x5 b hb h), x5⟩
            have HWB := Lib.hid hwB
            have HKB := Lib.hid (HKA.out.setCell ⟨p, 1, none⟩ (.inr hws) (.string ⟨(dirB at_).toArray⟩))
            clear hwB
            go_wp2
            refine ⟨⟨⟨dirB at_, r, hops⟩, th, 0, f', rfl, rfl, HWB, Lib.hid fun _ => ⟨HDL.out, fun x hx => HGr.out.2.1 x (List.mem_cons_of_mem _ hx), HGr.out.2.2⟩, Lib.hid (fun _ => by have := HMr.out; have := hmm; show mu ⟨at_, r, hops⟩ < f' ∧ f' ≤ 2000; omega), Lib.hid (fun _ => HRN.out), Lib.hid (fun h => absurd rfl h), HKB⟩, ?_⟩
            rw [muW_at HWB.out, HMW.out]
            have := hmm
            show mu ⟨at_, r, hops⟩ < mu ⟨at_, [46, 46] :: r, hops⟩
            omega
          · have HRN := Lib.hid (show (if (downT l follow ⟨at_, r, hops⟩ q).2.2 ≠ 0 then ([], false, (downT l follow ⟨at_, r, hops⟩ q).2.2) else runT l follow f' (downT l follow ⟨at_, r, hops⟩ q).1 (downT l follow ⟨at_, r, hops⟩ q).2.1) = R from by
              have h := HRR.out
              rw [runT] at h
              dsimp only at h
              rw [if_neg hq1, if_neg hq2] at h
              exact h)
            have hb1 : (q == [46]) = false := beq_eq_false_iff_ne.2 hq1
            have hb2 : (q == [46, 46]) = false := beq_eq_false_iff_ne.2 hq2
            have hgA' : Good ⟨at_, r, hops⟩ := ⟨HGr.out.1, fun x hx => HGr.out.2.1 x (List.mem_cons_of_mem _ hx), HGr.out.2.2⟩
            have hmx2 : mu ⟨at_, r, hops⟩ < 2000 := by have := HMr.out; have := hmm; omega
            have hDN := down_any p ta tc l ⟨at_, r, hops⟩ q follow m (wr.setCell ⟨p, 2, none⟩ (.slice (some ⟨pb, po + 1, none⟩) r.length (pc' - 1))) (by omega) (HKA.out.cell HM.out id) (HT.out.keep HKA.out) hl WA.out (by unfold mu at hmx2; omega) (by have := hgA'.2.2; omega) (by have := hgA'.1; omega) (by have := HGr.out.2.1 q (by simp); omega)
            have HDN := Lib.hid hDN
            have HDM := Lib.hid (down_mu l follow ⟨at_, r, hops⟩ q)
            have HG2 := Lib.hid (fun he => down_good (l := l) (follow := follow) (q := q) hgA' he)
            clear hDN hgA' hmx2
            generalize downT l follow ⟨at_, r, hops⟩ q = D at *
            go_wp2_with fail
            refine HDN.out.mono ?_
            rintro e w5 ⟨rfl, hw5, hk5⟩
            have HW5 := Lib.hid hw5
            have HK5 := Lib.hid (HKA.out.step hk5 (fun i hi h => by omega))
            clear hw5 hk5 HDN
            go_wp2
            refine ⟨⟨D.1, D.2.1, D.2.2, f', rfl, rfl, HW5, Lib.hid (fun h => (HG2.out h).1), Lib.hid (fun _ => by have h1 := HDM.out; have h2 := hmm; have h3 := HMr.out; omega), Lib.hid (fun h => ?_), Lib.hid (fun h => ?_), HK5⟩, ?_⟩
            · have h1 := HRN.out
              rw [if_neg (fun h2 => h2 h)] at h1
              exact h1
            · have h1 := HRN.out
              rw [if_pos h] at h1
              exact h1.symm
            · rw [muW_at HW5.out, HMW.out]
              have h1 := HDM.out
              have h2 := hmm
              omega
    · have HRQ := Lib.hid (HEr.out he0)
      clear HRr HEr
      go_wp2
      all_goals
        refine bodyPost_ret (v := .tuple #[.string ⟨#[]⟩, .bool false, .int .i64 er']) (by simp [results, Tryd.results37]) rfl ?_
        rw [HRQ.out]
        exact ⟨rfl, HKr.out⟩
end Go.Proofs.YtgpidbdgodgefaaDoor
