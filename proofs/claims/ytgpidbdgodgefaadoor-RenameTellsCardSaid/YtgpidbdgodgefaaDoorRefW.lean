/- The document's walk: its contract. Conditions: as the theorem names them. -/
import Derived.Test.YtgpidbdgodgefaaDoorHTree
import Derived.Test.YtgpidbdgodgefaaDoorWalkLs
import Derived.Deep.CutRange
import Derived.Deep.CutBlock
namespace Go.Proofs.YtgpidbdgodgefaaDoor
open Go.RowKit Go.Deep

def muV (p h : Value) : Nat := match p, h with
  | .slice _ n _, .int _ h => (8 - h.toNat) * 200 + n
  | _, _ => 0

set_option maxHeartbeats 8000000 in
set_option maxRecDepth 100000 in
theorem refWalk_any (ta : Option Addr) (tc : Nat) (l : List ItemV) (s : List UInt8) (follow : Bool) (w : World) (hT : TreeAt w ta l) (hl : l.length ≤ 4611686018427387903) (hs : s.length ≤ 9223372036854775807) (hd : ∀ x ∈ l, x.kind = 3 → 0 < x.bs.length) :
    Calls Tryd.prog 46 #[.slice ta l.length tc, .string ⟨s.toArray⟩, .bool follow] w fun e w' => e = .returned (.tuple #[.string ⟨(refWalkT l s follow).1.toArray⟩, .bool (refWalkT l s follow).2.1, .int .i64 (refWalkT l s follow).2.2]) ∧ Kp (fun _ => False) w w' := by
  obtain ⟨R, hR⟩ : ∃ R, refWalkT l s follow = R := ⟨_, rfl⟩
  have HRW := Lib.hid hR
  have HC := Lib.hid (refSplit_any s w hs)
  have HT := Lib.hid hT
  have HD := Lib.hid hd
  have hsf : ∀ (a : Addr) (b : Nat) (m : Mode) (w : World), (store a (.float .f64 b) m).run Tryd.prog w = stored Tryd.prog w a (.float .f64 b) m := fun a b m w => run_store _ w a _ m rfl
  rw [hR]
  clear hR hT hd
  go_enter Tryd.func46, Tryd.ntmps46
  go_wp2_with fail
  refine HC.out.mono ?_
  rintro e w1 ⟨hk, hsp⟩
  have HK1 := Lib.hid hk
  rcases hsp with ⟨he, v, rfl, ho⟩ | ⟨he, rfl⟩
  case inr =>
    have HE := Lib.hid (show R = ([], false, errN s) from by rw [← HRW.out, refWalkT, if_pos he])
    have heb : (errN s == 0) = false := by simpa using he
    generalize errN s = er at *
    go_wp2
    refine bodyPost_ret (v := .tuple #[.string ⟨#[]⟩, .bool false, .int .i64 er]) (by simp [results, Tryd.results46]) rfl ?_
    rw [HE.out]
    exact ⟨rfl, HK1.out⟩
  obtain ⟨pa, pc, hss, _, _⟩ := ss_of_owns ho
  have hv := hss.eq
  subst hv
  have HS := Lib.hid hss
  have HRR := Lib.hid (show refRunT l follow 2000 ⟨[], segs (cutB s), 0⟩ = R from by rw [← HRW.out, refWalkT, if_neg (by rw [he]; decide)])
  obtain ⟨e1, e2, e3⟩ := errN_ok he
  have HG := Lib.hid (show Good ⟨[], segs (cutB s), 0⟩ from ⟨Nat.zero_le _, e3, Nat.zero_le _⟩)
  have HM := Lib.hid (show mu ⟨[], segs (cutB s), 0⟩ < 2000 from by unfold mu; dsimp only; omega)
  generalize segs (cutB s) = ps at *
  clear hss ho hk e1 e2 e3 HRW HC
  clear he
  go_wp2_with fail
  go_loopw [9, 11, 12] (fun vp va vh wr => ∃ (pa : Option Addr) (pc : Nat) (ps : List (List UInt8)) (at_ : List UInt8) (hops f : Nat), vp = .slice pa ps.length pc ∧ va = .string ⟨at_.toArray⟩ ∧ vh = .int .i64 hops ∧ Hid (Ss wr (.slice pa ps.length pc) pa pc ps) ∧ Hid (Good ⟨at_, ps, hops⟩) ∧ Hid (mu ⟨at_, ps, hops⟩ < f ∧ f ≤ 2000) ∧ Hid (refRunT l follow f ⟨at_, ps, hops⟩ = R) ∧ Hid (Kp (fun _ => False) w wr)) (fun vp _ vh _ => muV vp vh)
  case atStart => exact ⟨pa, pc, ps, [], 0, 2000, rfl, rfl, rfl, HS, HG, Lib.hid ⟨HM.out, Nat.le_refl _⟩, HRR, HK1⟩
  case round =>
    clear HS HG HM HRR HK1
    obtain ⟨pa, pc, ps, at_, hops, f, rfl, rfl, rfl, HS, HG, HM, HR, HK⟩ := hrel
    cases ps with
    | nil =>
      have HRQ := Lib.hid (show R = (at_, true, 0) from by rw [← HR.out, refRunT_empty])
      go_wp2
      refine bodyPost_ret (v := .tuple #[.string ⟨at_.toArray⟩, .bool true, .int .i64 0]) (by simp [results, Tryd.results46]) rfl ?_
      rw [HRQ.out]
      exact ⟨rfl, HK.out⟩
    | cons q r =>
      have hlp : ((q :: r).length : Int) > 0 := by simp
      obtain ⟨pb, po, rfl, hq0⟩ := HS.out.seg 0 (by simp)
      rw [show strV (q :: r)[0] = .string ⟨q.toArray⟩ from rfl, Nat.add_zero] at hq0
      have hcap := HS.out.le
      have hmx := HS.out.max
      simp only [List.length_cons] at hcap
      obtain ⟨f', rfl⟩ : ∃ f', f = f' + 1 := ⟨f - 1, by have := HM.out; omega⟩
      have hqc : q = [46] ∨ q = [46, 46] ∨ (¬ q = [46] ∧ ¬ q = [46, 46]) := by
        by_cases h1 : q = [46]
        · exact .inl h1
        · by_cases h2 : q = [46, 46]
          · exact .inr (.inl h2)
          · exact .inr (.inr ⟨h1, h2⟩)
      have hpblt : pb < wr.heap.size := World.block_lt_of_cell? _ _ hq0
      go_upto_region 8 with fail
      go_cut [9] from 33 to 34 (fun vp wx => ∃ (ra : Option Addr) (rc : Nat), vp = .slice ra r.length rc ∧ wx = wr ∧ Hid (Ss wr (.slice ra r.length rc) ra rc r) ∧ Hid (∀ b, blk ra = some b → b < wr.heap.size))
      case first =>
        have HPB : Hid (∀ o, ∀ b, blk (some (⟨pb, o, none⟩ : Addr)) = some b → b < wr.heap.size) := fun o b hb => by cases hb; exact hpblt
        by_cases hc1 : pc = 1
        · subst hc1
          obtain rfl : r = [] := List.eq_nil_of_length_eq_zero (by omega)
          have HSr : Hid (Ss wr (.slice (some ⟨pb, po, none⟩) 0 0) (some ⟨pb, po, none⟩) 0 []) := ⟨rfl, by simp, by decide, fun h => (by cases h), fun i hi => by simp at hi⟩
          clear hcap hmx
          go_wp2_with fail
          go_meet
          exact ⟨_, _, rfl, rfl, HSr, Lib.hid (HPB.out po)⟩
        · have hc2 : ¬ (pc - 1 = 0) := by omega
          have HSr : Hid (Ss wr (.slice (some ⟨pb, po + 1, none⟩) r.length (pc - 1)) (some ⟨pb, po + 1, none⟩) (pc - 1) r) := ⟨rfl, by omega, by unfold maxLen at hmx ⊢; omega, fun h => (by cases h), fun i hi => by
            obtain ⟨b', off', e', hc'⟩ := HS.out.seg (i + 1) (by simp; omega)
            cases e'
            exact ⟨pb, po + 1, rfl, by rw [show po + 1 + i = po + (i + 1) by omega]; exact hc'⟩⟩
          go_wp2_with fail
          go_meet
          exact ⟨_, _, rfl, rfl, HSr, Lib.hid (HPB.out (po + 1))⟩
      obtain ⟨ra, rc, rfl, rfl, HSr, HPB⟩ := hcut
      clear hcap hmx hq0
      rcases hqc with rfl | rfl | ⟨hq1, hq2⟩
      · have HRN := Lib.hid (show refRunT l follow f' ⟨at_, r, hops⟩ = R from by rw [← HR.out]; rfl)
        go_wp2
        refine ⟨⟨ra, rc, r, at_, hops, f', rfl, rfl, rfl, HSr, Lib.hid ⟨HG.out.1, fun y hy => HG.out.2.1 y (List.mem_cons_of_mem _ hy), HG.out.2.2⟩, Lib.hid (by have h := HM.out; unfold mu at h ⊢; simp only [List.length_cons] at h ⊢; omega), HRN, HK⟩, ?_⟩
        show (8 - (hops : Int).toNat) * 200 + r.length < (8 - (hops : Int).toNat) * 200 + (r.length + 1)
        omega
      · have HRN := Lib.hid (show refRunT l follow f' ⟨dirB at_, r, hops⟩ = R from by rw [← HR.out]; rfl)
        go_wp2_with fail
        refine (refDir_any at_ wc (by have := HG.out.1; dsimp only at this; omega)).mono ?_
        rintro e w' ⟨rfl, rfl⟩
        go_wp2
        refine ⟨⟨ra, rc, r, dirB at_, hops, f', rfl, rfl, rfl, HSr, Lib.hid ⟨by have h5 := dirB_len at_; have h6 := HG.out.1; dsimp only at h6 ⊢; omega, fun y hy => HG.out.2.1 y (List.mem_cons_of_mem _ hy), HG.out.2.2⟩, Lib.hid (by have h := HM.out; unfold mu at h ⊢; simp only [List.length_cons] at h ⊢; omega), HRN, HK⟩, ?_⟩
        show (8 - (hops : Int).toNat) * 200 + r.length < (8 - (hops : Int).toNat) * 200 + (r.length + 1)
        omega
      · have HRN : Hid ((if dirL l at_ = false then ([], false, 9) else if 120 < (joinB at_ q).length then ([], false, 12) else match lookT l (joinB at_ q) with
              | none => if 0 < r.length then ([], false, 6) else (joinB at_ q, false, 0)
              | some x => if x.kind = 3 ∧ (0 < r.length ∨ follow = true) then (if 8 < hops + 1 then ([], false, 11) else if errN x.bs ≠ 0 then ([], false, errN x.bs) else refRunT l follow f' ⟨if x.bs.head? = some 47 then [] else at_, segs (cutB x.bs) ++ r, hops + 1⟩) else refRunT l follow f' ⟨joinB at_ q, r, hops⟩) = R) := by
          show _ = _
          have h := HR.out
          rw [refRunT] at h
          dsimp only at h
          rw [if_neg hq1, if_neg hq2] at h
          exact h
        have hb1 : (q == [46]) = false := beq_eq_false_iff_ne.2 hq1
        have hb2 : (q == [46, 46]) = false := beq_eq_false_iff_ne.2 hq2
        clear hq1 hq2 HR
        go_wp2_with fail
        refine (refIsDir_any ta tc l at_ wc (HT.out.keep HK.out) hl).mono ?_
        rintro e w1 ⟨rfl, hk1⟩
        have HK1 := Lib.hid (HK.out.trans hk1)
        have HS1 := Lib.hid (HSr.out.keep hk1 fun _ _ => id)
        have HZ1 := Lib.hid hk1.size
        clear hk1 HSr HK
        cases hdd : dirL l at_ with
        | false =>
          have HRQ := Lib.hid (show R = ([], false, 9) from by rw [← HRN.out, if_pos hdd])
          go_wp2
          refine bodyPost_ret (v := .tuple #[.string ⟨#[]⟩, .bool false, .int .i64 9]) (by simp [results, Tryd.results46]) rfl ?_
          rw [HRQ.out]
          exact ⟨rfl, HK1.out⟩
        | true =>
          have HRN1 := Lib.hid (by have h := HRN.out; rw [if_neg (by rw [hdd]; decide)] at h; exact h)
          have hal : at_.length ≤ 120 := HG.out.1
          have hql : q.length ≤ 120 := HG.out.2.1 q (by simp)
          go_wp2_with fail
          refine (refJoin_any at_ q w1 (by omega)).mono ?_
          rintro e w' ⟨rfl, rfl⟩
          have hjl : (joinB at_ q).length ≤ 241 := by unfold joinB; split <;> (try simp) <;> omega
          clear HRN
          generalize joinB at_ q = nx at *
          by_cases h120 : 120 < nx.length
          · have hd1 : decide ((nx.length : Int) > 120) = true := by simp; omega
            have HRQ := Lib.hid (show R = ([], false, 12) from by rw [← HRN1.out, if_pos h120])
            go_wp2
            refine bodyPost_ret (v := .tuple #[.string ⟨#[]⟩, .bool false, .int .i64 12]) (by simp [results, Tryd.results46]) rfl ?_
            rw [HRQ.out]
            exact ⟨rfl, HK1.out⟩
          have hd1 : decide ((nx.length : Int) > 120) = false := by simp; omega
          go_wp2_with fail
          refine (refGet_any ta tc l nx w1 (HT.out.keep HK1.out) hl).mono ?_
          rintro e w2 ⟨n, na, nc, rfl, hs1, h6, hn2, h8, hk2⟩
          have HS1n := Lib.hid hs1
          rw [nodeVal]
          have k3 : Kp (fun _ => False) w2 (w2.alloc (.cells #[.int .i64 n.kind, .int .i64 n.mode, .float .f64 n.time, .slice na n.bs.length nc] 42)) := (Kp.refl _ w2).alloc _
          have HK3 := Lib.hid ((HK1.out.trans hk2).trans k3)
          have HS3 := Lib.hid ((HS1.out.keep hk2 fun _ _ => id).keep k3 fun _ _ => id)
          have HN3 := Lib.hid (hn2.keepF k3)
          have HG3 := Lib.hid (hp_new w2 (.cells #[.int .i64 n.kind, .int .i64 n.mode, .float .f64 n.time, .slice na n.bs.length nc] 42))
          have HZ3 := Lib.hid (Nat.le_trans HZ1.out (Nat.le_trans hk2.size k3.size))
          clear hs1 h6 hn2 h8 hk2 k3 HK1 HS1 HZ1
          have hrc : 0 < r.length ∨ r.length = 0 := by omega
          cases ho : lookT l nx with
          | none =>
            rcases hrc with hr | hr
            · have hrb : decide ((r.length : Int) > 0) = true := decide_eq_true (by omega)
              have HRQ := Lib.hid (show R = ([], false, 6) from by rw [← HRN1.out, if_neg h120, ho]; dsimp only; rw [if_pos hr])
              clear HRN1 HS1n
              go_wp2
              refine bodyPost_ret (v := .tuple #[.string ⟨#[]⟩, .bool false, .int .i64 6]) (by simp [results, Tryd.results46]) rfl ?_
              rw [HRQ.out]
              exact ⟨rfl, HK3.out⟩
            · have hrb : decide ((r.length : Int) > 0) = false := decide_eq_false (by omega)
              have HRQ := Lib.hid (show R = (nx, false, 0) from by rw [← HRN1.out, if_neg h120, ho]; dsimp only; rw [if_neg (by omega)])
              have hrn : ¬ 0 < r.length := by omega
              clear hr HRN1 HS1n
              go_wp2
              refine bodyPost_ret (v := .tuple #[.string ⟨nx.toArray⟩, .bool false, .int .i64 0]) (by simp [results, Tryd.results46]) rfl ?_
              rw [HRQ.out]
              exact ⟨rfl, HK3.out⟩
          | some x =>
            have hx := HS1n.out x ho
            have hxm := (look_some ho).1
            by_cases hlk : n.kind = 3
            · have hdat : 0 < n.bs.length := by
                have h3 : x.kind = 3 := by rw [hx] at hlk; exact hlk
                have h4 := HD.out x hxm h3
                rw [hx]
                exact h4
              rcases hrc with hr | hr
              · have hrb : decide ((r.length : Int) > 0) = true := decide_eq_true (by omega)
                have hxk : x.kind = 3 := by rw [hx] at hlk; exact hlk
                have hxb : x.bs = n.bs := by rw [hx]; rfl
                have HRL : Hid ((if 8 < hops + 1 then ([], false, 11) else if errN n.bs ≠ 0 then ([], false, errN n.bs) else refRunT l follow f' ⟨if n.bs.head? = some 47 then [] else at_, segs (cutB n.bs) ++ r, hops + 1⟩) = R) := by
                  show _ = _
                  have h := HRN1.out
                  rw [if_neg h120, ho] at h
                  dsimp only at h
                  rw [if_pos ⟨hxk, .inl hr⟩, hxb] at h
                  exact h
                have hkb : (n.kind == 3) = true := by simp [hlk]
                have hho : hops ≤ 8 := HG.out.2.2
                clear hxk hxb hx hlk HRN1 HS1n hxm
                by_cases h8 : 8 < hops + 1
                · have hd8 : decide ((hops : Int) + 1 > 8) = true := by simp; omega
                  have HRQ := Lib.hid (show R = ([], false, 11) from by rw [← HRL.out, if_pos h8])
                  go_wp2
                  refine bodyPost_ret (v := .tuple #[.string ⟨#[]⟩, .bool false, .int .i64 11]) (by simp [results, Tryd.results46]) rfl ?_
                  rw [HRQ.out]
                  exact ⟨rfl, HK3.out⟩
                have hd8 : decide ((hops : Int) + 1 > 8) = false := by simp; omega
                obtain ⟨g0, g1, g2, g3⟩ := cell_four HG3.out
                have hconv := run_conv HN3.out.sl
                go_wp2_with fail
                refine (refSplit_any n.bs _ (by have := HN3.out.len; omega)).mono ?_
                rintro e w4 ⟨hk4, hsp⟩
                have HK4 := Lib.hid (HK3.out.trans hk4)
                have HS4 := Lib.hid (HS3.out.keep hk4 fun _ _ => id)
                have HN4 := Lib.hid (HN3.out.keepF hk4)
                have HG4 := Lib.hid (hk4.hp HG3.out id)
                have HSZ := Lib.hid (show wc.heap.size ≤ w4.heap.size from Nat.le_trans HZ3.out hk4.size)
                clear g0 g1 g2 g3 hconv
                obtain ⟨g0, g1, g2, g3⟩ := cell_four HG4.out
                rcases hsp with ⟨he, v, rfl, ho4⟩ | ⟨he, rfl⟩
                case inr =>
                  have HRQ := Lib.hid (show R = ([], false, errN n.bs) from by rw [← HRL.out, if_neg h8, if_pos he])
                  have heb : (errN n.bs == 0) = false := by simpa using he
                  generalize errN n.bs = er at *
                  clear HK3 HS3 HN3 HG3 hk4
                  go_wp2
                  refine bodyPost_ret (v := .tuple #[.string ⟨#[]⟩, .bool false, .int .i64 er]) (by simp [results, Tryd.results46]) rfl ?_
                  rw [HRQ.out]
                  exact ⟨rfl, HK4.out⟩
                obtain ⟨ma, mc, hms, _, hmf⟩ := ss_of_owns ho4
                have hmv := hms.eq
                subst hmv
                obtain ⟨_, e2, e3⟩ := errN_ok he
                have HRL2 := Lib.hid (show refRunT l follow f' ⟨if n.bs.head? = some 47 then [] else at_, segs (cutB n.bs) ++ r, hops + 1⟩ = R from by have h := HRL.out; rw [if_neg h8, if_neg (fun k => k he)] at h; exact h)
                generalize segs (cutB n.bs) = more at *
                obtain ⟨db, doff, rfl, hc0⟩ := HN4.out.sl.seg 0 hdat
                have hh47 : n.bs.head? = some n.bs[0] := by rw [List.head?_eq_getElem?, List.getElem?_eq_getElem hdat]
                rw [Nat.add_zero] at hc0
                unfold byteV at hc0
                have ka : Kp (fun _ => False) w4 (w4.alloc (.cells #[] 9)) := (Kp.refl _ w4).alloc _
                have HM5 := Lib.hid (hms.keep ka fun _ _ => id)
                have HS5 := Lib.hid (HS4.out.keep ka fun _ _ => id)
                have HK5 := Lib.hid (HK4.out.trans ka)
                have HO5 : Hid ((w4.alloc (.cells #[] 9)).ownsRow w4.heap.size 9 1 (.slice (some ⟨w4.heap.size, 0, none⟩) 0 0) 0 ([].map strV)) := owns_lit w4 #[] _ 0 _ [] (Nat.le_refl _) rfl (by decide) rfl
                have hMu : mu ⟨at_, q :: r, hops⟩ < f' + 1 ∧ f' + 1 ≤ 2000 := HM.out
                unfold mu at hMu
                simp only [List.length_cons] at hMu
                have HM7 : ∀ a' : List UInt8, Hid (mu ⟨a', more ++ r, hops + 1⟩ < f' ∧ f' ≤ 2000) := fun a' => by
                  show _ ∧ _
                  unfold mu
                  simp only [List.length_append]
                  omega
                have HG7 : ∀ a' : List UInt8, a'.length ≤ 120 → Hid (Good ⟨a', more ++ r, hops + 1⟩) := fun a' ha => ⟨ha, fun y hy => by
                  rcases List.mem_append.1 hy with hy | hy
                  · exact e3 y hy
                  · exact HG.out.2.1 y (List.mem_cons_of_mem _ hy), by show hops + 1 ≤ 8; omega⟩
                have hrl : r.length ≤ 2000 := by omega
                clear hMu e3 ka hms HRL hk4 HK3 HS3 HN3 HG3 ho4 hmf
                obtain ⟨i0, I⟩ := strInfo
                by_cases h47 : n.bs[0] = 47
                · have HRF := Lib.hid (show refRunT l follow f' ⟨[], more ++ r, hops + 1⟩ = R from by have h := HRL2.out; rw [hh47, if_pos (by rw [h47])] at h; exact h)
                  replace HM7 := HM7 []
                  replace HG7 := HG7 [] (Nat.zero_le _)
                  have hq47 : ((n.bs[0].toNat : Int) == 47) = true := by rw [h47]; rfl
                  clear HRL2 hh47 h47
                  generalize (n.bs[0].toNat : Int) = cz at *
                  go_wp2_with (at_builtin; refine wpList_append_ss rfl I w4.heap.size (.tmp 101) (.tmp 102) rfl (.slice (some ⟨w4.heap.size, 0, none⟩) 0 0) [] rfl HO5.out (by simp) (.slice ma more.length mc) ma mc more rfl HM5.out (by simp; omega) ?_)
                  intro v6 w6 hown6 hg6 _
                  have hk6 : Kp (fun b => some w4.heap.size = some b) _ w6 := (Kp.refl (fun b => some w4.heap.size = some b) _).grown hg6 fun k hk => .inl hk
                  have HO6 : Hid (w6.ownsRow w4.heap.size 9 1 v6 more.length (more.map strV)) := hown6
                  have HS6 := Lib.hid (HS5.out.keep hk6 fun b1 hb1 h => by cases h; have := HPB.out _ hb1; have h5 := HSZ.out; omega)
                  have HK6 := Lib.hid (HK5.out.step hk6 fun k hk h => by cases h; have h5 := HK4.out.size; omega)
                  have HZ6 := Lib.hid hk6.size
                  clear hown6 hg6 hk6 HO5 HM5 HS5 HK5
                  go_wp2_with (at_builtin; refine wpList_append_ss rfl I w4.heap.size (.tmp 103) (.tmp 104) rfl v6 more rfl HO6.out (by have := HZ6.out; simp at this; omega) (.slice ra r.length rc) ra rc r rfl HS6.out (by omega) ?_)
                  intro v7 w7 hown7 hg7 _
                  have hk7 : Kp (fun b => v6.ownBlock = some b) w6 w7 := (Kp.refl (fun b => v6.ownBlock = some b) w6).grown hg7 fun k hk => .inl hk
                  have HK7 := Lib.hid (HK6.out.step hk7 fun k hk h => by have := (World.ownsRow.lt HO6.out k h).1; have h5 := HK4.out.size; omega)
                  have hown8 : w7.ownsRow w4.heap.size 9 1 v7 (more ++ r).length ((more ++ r).map strV) := by
                    rw [List.length_append, List.map_append]
                    simpa using hown7
                  obtain ⟨a7, c7, hs7, _, _⟩ := ss_of_owns hown8
                  have hv7 := hs7.eq
                  subst hv7
                  have HS7 := Lib.hid hs7
                  clear hown7 hown8 hg7 hk7 HO6 HS6 HK6 hs7 HZ6
                  go_wp2
                  refine ⟨⟨a7, c7, more ++ r, [], hops + 1, f', rfl, rfl, by go_num, HS7, HG7, HM7, HRF, HK7⟩, ?_⟩
                  show (8 - ((hops : Int) + 1).toNat) * 200 + (more ++ r).length < (8 - (hops : Int).toNat) * 200 + (r.length + 1)
                  rw [List.length_append]
                  omega
                · have HRF := Lib.hid (show refRunT l follow f' ⟨at_, more ++ r, hops + 1⟩ = R from by have h := HRL2.out; rw [hh47, if_neg (fun e => h47 (Option.some.inj e))] at h; exact h)
                  replace HM7 := HM7 at_
                  replace HG7 := HG7 at_ HG.out.1
                  have hq47 : ((n.bs[0].toNat : Int) == 47) = false := by
                    rw [beq_eq_false_iff_ne]
                    exact fun e => h47 (UInt8.toNat_inj.1 (by show n.bs[0].toNat = 47; omega))
                  clear HRL2 hh47 h47
                  generalize (n.bs[0].toNat : Int) = cz at *
                  go_wp2_with (at_builtin; refine wpList_append_ss rfl I w4.heap.size (.tmp 101) (.tmp 102) rfl (.slice (some ⟨w4.heap.size, 0, none⟩) 0 0) [] rfl HO5.out (by simp) (.slice ma more.length mc) ma mc more rfl HM5.out (by simp; omega) ?_)
                  intro v6 w6 hown6 hg6 _
                  have hk6 : Kp (fun b => some w4.heap.size = some b) _ w6 := (Kp.refl (fun b => some w4.heap.size = some b) _).grown hg6 fun k hk => .inl hk
                  have HO6 : Hid (w6.ownsRow w4.heap.size 9 1 v6 more.length (more.map strV)) := hown6
                  have HS6 := Lib.hid (HS5.out.keep hk6 fun b1 hb1 h => by cases h; have := HPB.out _ hb1; have h5 := HSZ.out; omega)
                  have HK6 := Lib.hid (HK5.out.step hk6 fun k hk h => by cases h; have h5 := HK4.out.size; omega)
                  have HZ6 := Lib.hid hk6.size
                  clear hown6 hg6 hk6 HO5 HM5 HS5 HK5
                  go_wp2_with (at_builtin; refine wpList_append_ss rfl I w4.heap.size (.tmp 103) (.tmp 104) rfl v6 more rfl HO6.out (by have := HZ6.out; simp at this; omega) (.slice ra r.length rc) ra rc r rfl HS6.out (by omega) ?_)
                  intro v7 w7 hown7 hg7 _
                  have hk7 : Kp (fun b => v6.ownBlock = some b) w6 w7 := (Kp.refl (fun b => v6.ownBlock = some b) w6).grown hg7 fun k hk => .inl hk
                  have HK7 := Lib.hid (HK6.out.step hk7 fun k hk h => by have := (World.ownsRow.lt HO6.out k h).1; have h5 := HK4.out.size; omega)
                  have hown8 : w7.ownsRow w4.heap.size 9 1 v7 (more ++ r).length ((more ++ r).map strV) := by
                    rw [List.length_append, List.map_append]
                    simpa using hown7
                  obtain ⟨a7, c7, hs7, _, _⟩ := ss_of_owns hown8
                  have hv7 := hs7.eq
                  subst hv7
                  have HS7 := Lib.hid hs7
                  clear hown7 hown8 hg7 hk7 HO6 HS6 HK6 hs7 HZ6
                  go_wp2
                  refine ⟨⟨a7, c7, more ++ r, at_, hops + 1, f', rfl, rfl, by go_num, HS7, HG7, HM7, HRF, HK7⟩, ?_⟩
                  show (8 - ((hops : Int) + 1).toNat) * 200 + (more ++ r).length < (8 - (hops : Int).toNat) * 200 + (r.length + 1)
                  rw [List.length_append]
                  omega
              · obtain rfl : r = [] := List.eq_nil_of_length_eq_zero hr
                clear hr
                cases follow with
                | true =>
                  have hxk : x.kind = 3 := by rw [hx] at hlk; exact hlk
                  have hxb : x.bs = n.bs := by rw [hx]; rfl
                  have HRL : Hid ((if 8 < hops + 1 then ([], false, 11) else if errN n.bs ≠ 0 then ([], false, errN n.bs) else refRunT l true f' ⟨if n.bs.head? = some 47 then [] else at_, segs (cutB n.bs) ++ ([] : List (List UInt8)), hops + 1⟩) = R) := by
                    show _ = _
                    have h := HRN1.out
                    rw [if_neg h120, ho] at h
                    dsimp only at h
                    rw [if_pos ⟨hxk, .inr rfl⟩, hxb] at h
                    exact h
                  have hkb : (n.kind == 3) = true := by simp [hlk]
                  have hho : hops ≤ 8 := HG.out.2.2
                  clear hxk hxb hx hlk HRN1 HS1n hxm
                  by_cases h8 : 8 < hops + 1
                  · have hd8 : decide ((hops : Int) + 1 > 8) = true := by simp; omega
                    have HRQ := Lib.hid (show R = ([], false, 11) from by rw [← HRL.out, if_pos h8])
                    go_wp2
                    refine bodyPost_ret (v := .tuple #[.string ⟨#[]⟩, .bool false, .int .i64 11]) (by simp [results, Tryd.results46]) rfl ?_
                    rw [HRQ.out]
                    exact ⟨rfl, HK3.out⟩
                  have hd8 : decide ((hops : Int) + 1 > 8) = false := by simp; omega
                  obtain ⟨g0, g1, g2, g3⟩ := cell_four HG3.out
                  have hconv := run_conv HN3.out.sl
                  go_wp2_with fail
                  refine (refSplit_any n.bs _ (by have := HN3.out.len; omega)).mono ?_
                  rintro e w4 ⟨hk4, hsp⟩
                  have HK4 := Lib.hid (HK3.out.trans hk4)
                  have HS4 := Lib.hid (HS3.out.keep hk4 fun _ _ => id)
                  have HN4 := Lib.hid (HN3.out.keepF hk4)
                  have HG4 := Lib.hid (hk4.hp HG3.out id)
                  have HSZ := Lib.hid (show wc.heap.size ≤ w4.heap.size from Nat.le_trans HZ3.out hk4.size)
                  clear g0 g1 g2 g3 hconv
                  obtain ⟨g0, g1, g2, g3⟩ := cell_four HG4.out
                  rcases hsp with ⟨he, v, rfl, ho4⟩ | ⟨he, rfl⟩
                  case inr =>
                    have HRQ := Lib.hid (show R = ([], false, errN n.bs) from by rw [← HRL.out, if_neg h8, if_pos he])
                    have heb : (errN n.bs == 0) = false := by simpa using he
                    generalize errN n.bs = er at *
                    clear HK3 HS3 HN3 HG3 hk4
                    go_wp2
                    refine bodyPost_ret (v := .tuple #[.string ⟨#[]⟩, .bool false, .int .i64 er]) (by simp [results, Tryd.results46]) rfl ?_
                    rw [HRQ.out]
                    exact ⟨rfl, HK4.out⟩
                  obtain ⟨ma, mc, hms, _, hmf⟩ := ss_of_owns ho4
                  have hmv := hms.eq
                  subst hmv
                  obtain ⟨_, e2, e3⟩ := errN_ok he
                  have HRL2 := Lib.hid (show refRunT l true f' ⟨if n.bs.head? = some 47 then [] else at_, segs (cutB n.bs) ++ ([] : List (List UInt8)), hops + 1⟩ = R from by have h := HRL.out; rw [if_neg h8, if_neg (fun k => k he)] at h; exact h)
                  generalize segs (cutB n.bs) = more at *
                  obtain ⟨db, doff, rfl, hc0⟩ := HN4.out.sl.seg 0 hdat
                  have hh47 : n.bs.head? = some n.bs[0] := by rw [List.head?_eq_getElem?, List.getElem?_eq_getElem hdat]
                  rw [Nat.add_zero] at hc0
                  unfold byteV at hc0
                  have ka : Kp (fun _ => False) w4 (w4.alloc (.cells #[] 9)) := (Kp.refl _ w4).alloc _
                  have HM5 := Lib.hid (hms.keep ka fun _ _ => id)
                  have HS5 := Lib.hid (HS4.out.keep ka fun _ _ => id)
                  have HK5 := Lib.hid (HK4.out.trans ka)
                  have HO5 : Hid ((w4.alloc (.cells #[] 9)).ownsRow w4.heap.size 9 1 (.slice (some ⟨w4.heap.size, 0, none⟩) 0 0) 0 ([].map strV)) := owns_lit w4 #[] _ 0 _ [] (Nat.le_refl _) rfl (by decide) rfl
                  have hMu : mu ⟨at_, q :: ([] : List (List UInt8)), hops⟩ < f' + 1 ∧ f' + 1 ≤ 2000 := HM.out
                  unfold mu at hMu
                  simp only [List.length_cons] at hMu
                  have HM7 : ∀ a' : List UInt8, Hid (mu ⟨a', more ++ ([] : List (List UInt8)), hops + 1⟩ < f' ∧ f' ≤ 2000) := fun a' => by
                    show _ ∧ _
                    unfold mu
                    simp only [List.length_append]
                    omega
                  have HG7 : ∀ a' : List UInt8, a'.length ≤ 120 → Hid (Good ⟨a', more ++ ([] : List (List UInt8)), hops + 1⟩) := fun a' ha => ⟨ha, fun y hy => by
                    rcases List.mem_append.1 hy with hy | hy
                    · exact e3 y hy
                    · exact HG.out.2.1 y (List.mem_cons_of_mem _ hy), by show hops + 1 ≤ 8; omega⟩
                  have hrl : ([] : List (List UInt8)).length ≤ 2000 := by omega
                  clear hMu e3 ka hms HRL hk4 HK3 HS3 HN3 HG3 ho4 hmf
                  obtain ⟨i0, I⟩ := strInfo
                  by_cases h47 : n.bs[0] = 47
                  · have HRF := Lib.hid (show refRunT l true f' ⟨[], more ++ ([] : List (List UInt8)), hops + 1⟩ = R from by have h := HRL2.out; rw [hh47, if_pos (by rw [h47])] at h; exact h)
                    replace HM7 := HM7 []
                    replace HG7 := HG7 [] (Nat.zero_le _)
                    have hq47 : ((n.bs[0].toNat : Int) == 47) = true := by rw [h47]; rfl
                    clear HRL2 hh47 h47
                    generalize (n.bs[0].toNat : Int) = cz at *
                    go_wp2_with (at_builtin; refine wpList_append_ss rfl I w4.heap.size (.tmp 101) (.tmp 102) rfl (.slice (some ⟨w4.heap.size, 0, none⟩) 0 0) [] rfl HO5.out (by simp) (.slice ma more.length mc) ma mc more rfl HM5.out (by simp; omega) ?_)
                    intro v6 w6 hown6 hg6 _
                    have hk6 : Kp (fun b => some w4.heap.size = some b) _ w6 := (Kp.refl (fun b => some w4.heap.size = some b) _).grown hg6 fun k hk => .inl hk
                    have HO6 : Hid (w6.ownsRow w4.heap.size 9 1 v6 more.length (more.map strV)) := hown6
                    have HS6 := Lib.hid (HS5.out.keep hk6 fun b1 hb1 h => by cases h; have := HPB.out _ hb1; have h5 := HSZ.out; omega)
                    have HK6 := Lib.hid (HK5.out.step hk6 fun k hk h => by cases h; have h5 := HK4.out.size; omega)
                    have HZ6 := Lib.hid hk6.size
                    clear hown6 hg6 hk6 HO5 HM5 HS5 HK5
                    go_wp2_with (at_builtin; refine wpList_append_ss rfl I w4.heap.size (.tmp 103) (.tmp 104) rfl v6 more rfl HO6.out (by have := HZ6.out; simp at this; omega) (.slice ra ([] : List (List UInt8)).length rc) ra rc ([] : List (List UInt8)) rfl HS6.out (by omega) ?_)
                    intro v7 w7 hown7 hg7 _
                    have hk7 : Kp (fun b => v6.ownBlock = some b) w6 w7 := (Kp.refl (fun b => v6.ownBlock = some b) w6).grown hg7 fun k hk => .inl hk
                    have HK7 := Lib.hid (HK6.out.step hk7 fun k hk h => by have := (World.ownsRow.lt HO6.out k h).1; have h5 := HK4.out.size; omega)
                    have hown8 : w7.ownsRow w4.heap.size 9 1 v7 (more ++ ([] : List (List UInt8))).length ((more ++ ([] : List (List UInt8))).map strV) := by
                      rw [List.length_append, List.map_append]
                      simpa using hown7
                    obtain ⟨a7, c7, hs7, _, _⟩ := ss_of_owns hown8
                    have hv7 := hs7.eq
                    subst hv7
                    have HS7 := Lib.hid hs7
                    clear hown7 hown8 hg7 hk7 HO6 HS6 HK6 hs7 HZ6
                    go_wp2
                    refine ⟨⟨a7, c7, more ++ ([] : List (List UInt8)), [], hops + 1, f', rfl, rfl, by go_num, HS7, HG7, HM7, HRF, HK7⟩, ?_⟩
                    show (8 - ((hops : Int) + 1).toNat) * 200 + (more ++ ([] : List (List UInt8))).length < (8 - (hops : Int).toNat) * 200 + (([] : List (List UInt8)).length + 1)
                    rw [List.length_append]
                    omega
                  · have HRF := Lib.hid (show refRunT l true f' ⟨at_, more ++ ([] : List (List UInt8)), hops + 1⟩ = R from by have h := HRL2.out; rw [hh47, if_neg (fun e => h47 (Option.some.inj e))] at h; exact h)
                    replace HM7 := HM7 at_
                    replace HG7 := HG7 at_ HG.out.1
                    have hq47 : ((n.bs[0].toNat : Int) == 47) = false := by
                      rw [beq_eq_false_iff_ne]
                      exact fun e => h47 (UInt8.toNat_inj.1 (by show n.bs[0].toNat = 47; omega))
                    clear HRL2 hh47 h47
                    generalize (n.bs[0].toNat : Int) = cz at *
                    go_wp2_with (at_builtin; refine wpList_append_ss rfl I w4.heap.size (.tmp 101) (.tmp 102) rfl (.slice (some ⟨w4.heap.size, 0, none⟩) 0 0) [] rfl HO5.out (by simp) (.slice ma more.length mc) ma mc more rfl HM5.out (by simp; omega) ?_)
                    intro v6 w6 hown6 hg6 _
                    have hk6 : Kp (fun b => some w4.heap.size = some b) _ w6 := (Kp.refl (fun b => some w4.heap.size = some b) _).grown hg6 fun k hk => .inl hk
                    have HO6 : Hid (w6.ownsRow w4.heap.size 9 1 v6 more.length (more.map strV)) := hown6
                    have HS6 := Lib.hid (HS5.out.keep hk6 fun b1 hb1 h => by cases h; have := HPB.out _ hb1; have h5 := HSZ.out; omega)
                    have HK6 := Lib.hid (HK5.out.step hk6 fun k hk h => by cases h; have h5 := HK4.out.size; omega)
                    have HZ6 := Lib.hid hk6.size
                    clear hown6 hg6 hk6 HO5 HM5 HS5 HK5
                    go_wp2_with (at_builtin; refine wpList_append_ss rfl I w4.heap.size (.tmp 103) (.tmp 104) rfl v6 more rfl HO6.out (by have := HZ6.out; simp at this; omega) (.slice ra ([] : List (List UInt8)).length rc) ra rc ([] : List (List UInt8)) rfl HS6.out (by omega) ?_)
                    intro v7 w7 hown7 hg7 _
                    have hk7 : Kp (fun b => v6.ownBlock = some b) w6 w7 := (Kp.refl (fun b => v6.ownBlock = some b) w6).grown hg7 fun k hk => .inl hk
                    have HK7 := Lib.hid (HK6.out.step hk7 fun k hk h => by have := (World.ownsRow.lt HO6.out k h).1; have h5 := HK4.out.size; omega)
                    have hown8 : w7.ownsRow w4.heap.size 9 1 v7 (more ++ ([] : List (List UInt8))).length ((more ++ ([] : List (List UInt8))).map strV) := by
                      rw [List.length_append, List.map_append]
                      simpa using hown7
                    obtain ⟨a7, c7, hs7, _, _⟩ := ss_of_owns hown8
                    have hv7 := hs7.eq
                    subst hv7
                    have HS7 := Lib.hid hs7
                    clear hown7 hown8 hg7 hk7 HO6 HS6 HK6 hs7 HZ6
                    go_wp2
                    refine ⟨⟨a7, c7, more ++ ([] : List (List UInt8)), at_, hops + 1, f', rfl, rfl, by go_num, HS7, HG7, HM7, HRF, HK7⟩, ?_⟩
                    show (8 - ((hops : Int) + 1).toNat) * 200 + (more ++ ([] : List (List UInt8))).length < (8 - (hops : Int).toNat) * 200 + (([] : List (List UInt8)).length + 1)
                    rw [List.length_append]
                    omega
                | false =>
                  have hkb : (n.kind == 3) = true := by simp [hlk]
                  have HRF : Hid (refRunT l false f' ⟨nx, ([] : List (List UInt8)), hops⟩ = R) := by
                    show _ = _
                    have h := HRN1.out
                    rw [if_neg h120, ho] at h
                    dsimp only at h
                    rw [if_neg (fun h => h.2.elim (fun h => absurd h (by simp)) (fun h => by cases h))] at h
                    exact h
                  clear HRN1 HS1n hxm hx
                  try clear hlk
                  obtain ⟨g0, g1, g2, g3⟩ := cell_four HG3.out
                  go_wp2
                  refine ⟨⟨ra, rc, ([] : List (List UInt8)), nx, hops, f', rfl, rfl, rfl, HS3, Lib.hid ⟨by show nx.length ≤ 120; omega, fun y hy => HG.out.2.1 y (List.mem_cons_of_mem _ hy), HG.out.2.2⟩, Lib.hid (by have h := HM.out; unfold mu at h ⊢; simp only [List.length_cons] at h ⊢; omega), HRF, HK3⟩, ?_⟩
                  show (8 - (hops : Int).toNat) * 200 + ([] : List (List UInt8)).length < (8 - (hops : Int).toNat) * 200 + (([] : List (List UInt8)).length + 1)
                  omega
            · have hkb : (n.kind == 3) = false := by simp [hlk]
              have HRF : Hid (refRunT l follow f' ⟨nx, r, hops⟩ = R) := by
                show _ = _
                have h := HRN1.out
                rw [if_neg h120, ho] at h
                dsimp only at h
                rw [if_neg (fun h => hlk (by rw [hx]; exact h.1))] at h
                exact h
              clear HRN1 HS1n hxm hx
              try clear hlk
              obtain ⟨g0, g1, g2, g3⟩ := cell_four HG3.out
              go_wp2
              refine ⟨⟨ra, rc, r, nx, hops, f', rfl, rfl, rfl, HS3, Lib.hid ⟨by show nx.length ≤ 120; omega, fun y hy => HG.out.2.1 y (List.mem_cons_of_mem _ hy), HG.out.2.2⟩, Lib.hid (by have h := HM.out; unfold mu at h ⊢; simp only [List.length_cons] at h ⊢; omega), HRF, HK3⟩, ?_⟩
              show (8 - (hops : Int).toNat) * 200 + r.length < (8 - (hops : Int).toNat) * 200 + (r.length + 1)
              omega
end Go.Proofs.YtgpidbdgodgefaaDoor
