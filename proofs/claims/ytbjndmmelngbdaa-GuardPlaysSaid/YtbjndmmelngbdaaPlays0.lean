/- GuardPlays: the contract of player.want: it answers as the plain law says. Conditions: as the theorem names them. -/
import Derived.Test.YtbjndmmelngbdaaPl
import Derived.Test.YtbjndmmelngbdaaWant
import Derived.Deep.LoopGhost
import Derived.Lib.Hide
import Derived.Deep.Grids
import Derived.Deep.RegionHeld3
import Derived.Deep.QuietTactic
import Derived.BigQuiet
import Derived.StillTailTactics
namespace Go.Proofs.Ytbjndmmelngbdaa
open Go.RowKit Go.Deep

theorem infoInt : (Try.prog.info? 3).map (fun i => (i.zero, i.size, i.bytes)) = some (some (.int .i64 0), 1, 8) := by kernel_rfl
theorem infoGp : (Try.prog.info? 27).map (fun i => (i.zero, i.size, i.bytes)) = some (some (.pointer none), 1, 8) := by kernel_rfl
theorem rowInt : ∃ i, RowInfo Try.prog 36 3 i (.int .i64 0) 8 := by
  obtain ⟨i, h1, h2, h3, h4⟩ := info_parts infoInt
  exact ⟨i, Try.underlying36, h1, h2, rfl, h3, h4⟩
theorem rowGp : ∃ i, RowInfo Try.prog 37 27 i (.pointer none) 8 := by
  obtain ⟨i, h1, h2, h3, h4⟩ := info_parts infoGp
  exact ⟨i, Try.underlying37, h1, h2, rfl, h3, h4⟩

/-- The numbers of the steps are of their kind. -/
def Nums (s : GSteps) : Prop := s.ll ≤ maxLen ∧ ∀ i, (-9223372036854775808 ≤ s.what i ∧ s.what i ≤ 9223372036854775807) ∧ (-9223372036854775808 ≤ s.n i ∧ s.n i ≤ 9223372036854775807)

/-- What want comes to. -/
def WantEnd (B0 p : Nat) (la : Option Addr) (lc : Nat) (s : GSteps) (deep k : Nat) (log : List Int) (gs : List Nat) (lr gr : Option Nat) (w : World) (e : Ending) (w' : World) : Prop :=
  e = .returned (.tuple #[.int .i64 (pl s deep k log).1.1, .int .i64 (pl s deep k log).1.2]) ∧
  ∃ lr', Pl w' B0 p la lc s (pl s deep k log).2.1 (pl s deep k log).2.2 gs lr' gr ∧ Fresh w lr lr' ∧ Kp (fun b => b = p ∨ lr = some b) w w'

theorem cell_three {w : World} {n : Nat} {a b c : Value} {t : TypeId} (h : w.heap[n]? = some (.cells #[a, b, c] t (0, 0))) :
    w.cell? ⟨n, 0, none⟩ = some a ∧ w.cell? ⟨n, 1, none⟩ = some b ∧ w.cell? ⟨n, 2, none⟩ = some c :=
  ⟨by simp [World.cell?, h], by simp [World.cell?, h], by simp [World.cell?, h]⟩

theorem own_step {p : Nat} {lr lr' : Option Nat} {w w1 w2 : World} (h : Kp (fun b => b = p ∨ lr = some b) w w1) (hf : Fresh w lr lr') (k : Kp (fun b => b = p ∨ lr' = some b) w1 w2) : Kp (fun b => b = p ∨ lr = some b) w w2 :=
  h.step k fun i hi hs => by
    rcases hs with hs | hs
    · exact .inl hs
    · rcases hf with e | ⟨n, e, hn⟩
      · exact .inr (e ▸ hs)
      · rw [e] at hs; cases hs; omega

set_option maxHeartbeats 6000000 in
set_option maxRecDepth 100000 in
theorem want_any (B0 p : Nat) (la : Option Addr) (lc : Nat) (s : GSteps) (hs : Nums s) : ∀ (m deep k : Nat) (log : List Int) (gs : List Nat) (lr gr : Option Nat) (w : World), 60 - k < m → k ≤ 60 → deep ≤ 6 → log.length ≤ k → Pl w B0 p la lc s k log gs lr gr →
    Calls Try.prog 22 #[.pointer (some ⟨p, 0, none⟩), .int .i64 deep] w (WantEnd B0 p la lc s deep k log gs lr gr w) := by
  intro m
  induction m with
  | zero => intro deep k log gs lr gr w hm; omega
  | succ m ih =>
    intro deep k log gs lr gr w hm hk hd hlog hp
    have HP := Lib.hid hp; have IH := Lib.hid ih; have HS := Lib.hid hs
    clear hp ih hs
    go_enter Try.func22, Try.ntmps22
    go_wp2_with fail
    go_loopg [] (60 - k) (fun gk wr => ∃ (k' : Nat) (log' : List Int) (lr' : Option Nat), gk = 60 - k' ∧ k ≤ k' ∧ k' ≤ 60 ∧ Hid (log'.length ≤ k') ∧ Hid (Pl wr B0 p la lc s k' log' gs lr' gr) ∧ Hid (Fresh w lr lr') ∧ Hid (Kp (fun b => b = p ∨ lr = some b) w wr) ∧ Hid (pl s deep k' log' = pl s deep k log))
    case atStart => exact ⟨k, log, lr, rfl, Nat.le_refl _, hk, Lib.hid hlog, HP, Lib.hid (.inl rfl), Lib.hid (Kp.refl _ _), Lib.hid rfl⟩
    case round =>
      obtain ⟨k', log', lr', rfl, hk1, hk2, HL, HPl, HF, HK, HE⟩ := hrel
      obtain ⟨lv, gv, hh, hlr, hgr, hol, hog⟩ := HPl.out.hp
      obtain ⟨⟨c0, c1, c2, c3⟩, ⟨f0, f1, f2, f3⟩, hlt⟩ := cell_five hh
      have hll : s.ll ≤ 9223372036854775807 := HS.out.1
      clear hh hlr hgr hol hog
      by_cases hkl : k' < s.ll ∧ k' < 60
      · have h1 : (k' : Int) < (s.ll : Int) := by omega
        have h2 : (k' : Int) < 60 := by omega
        obtain ⟨b, off, hla, hbB, d0, d1, d2⟩ := HPl.out.steps k' hkl.1
        subst hla
        go_wp2_with fail
        go_quiet (fail)
        have HPd := Lib.hid (HPl.out.keepF ((Kp.refl (fun _ => False) wr).drewN nq))
        have HKd := Lib.hid (HK.out.drewN nq)
        clear c0 c1 c2 c3 f0 f1 f2 f3 hlt d0 d1 d2 HPl HK
        generalize wr.drewN nq = w1 at *
        obtain ⟨lv1, gv1, hh, hlr, hgr, hol, hog⟩ := HPd.out.hp
        obtain ⟨⟨c0, c1, c2, c3⟩, ⟨f0, f1, f2, f3⟩, hlt⟩ := cell_five hh
        obtain ⟨b', off', hla, hbB, d0, d1, d2⟩ := HPd.out.steps k' hkl.1
        cases hla
        clear hh hlr hgr hol hog
        go_wp2_with fail
        go_region_held3 (fun w' => w'.cell? ⟨p, 0, none⟩ = some (.slice (some ⟨b, off, none⟩) s.ll lc) ∧ w'.cell? ⟨p, 1, none⟩ = some (.int .i64 (k' : Int)) ∧ w'.cell? ⟨b, off + k' * 3, none⟩ = some (.int .i64 (s.what k')) ∧ w'.cell? ⟨b, off + k' * 3 + 1, none⟩ = some (.int .i64 (s.n k')) ∧ w'.cell? ⟨b, off + k' * 3 + 2, none⟩ = some (.bool (s.ok k'))) (go_keep) ((first | fail))
        have HPe := Lib.hid (HPd.out.keepF (((Kp.refl (fun _ => False) w1).alloc (.cells #[.int .i64 (s.what k'), .int .i64 (s.n k'), .bool (s.ok k')] 51)).drew))
        have HKe := Lib.hid ((HKd.out.alloc (.cells #[.int .i64 (s.what k'), .int .i64 (s.n k'), .bool (s.ok k')] 51)).drew)
        have HXe := Lib.hid (show ((w1.alloc (.cells #[.int .i64 (s.what k'), .int .i64 (s.n k'), .bool (s.ok k')] 51)).drew).heap[w1.heap.size]? = some (.cells #[.int .i64 (s.what k'), .int .i64 (s.n k'), .bool (s.ok k')] 51 (0, 0)) from hp_new _ _)
        have hxp : w1.heap.size ≠ p := by omega
        have HX0 := Lib.hid (show w1.heap.size ≠ p ∧ (∀ b, lr' = some b → w1.heap.size ≠ b) ∧ w.heap.size ≤ w1.heap.size from ⟨hxp, fun b hb => by have := (HPd.out.row.1 b hb).2; omega, HKd.out.size⟩)
        generalize hx : w1.heap.size = x at *
        clear c0 c1 c2 c3 f0 f1 f2 f3 hlt d0 d1 d2 HPd HKd hx
        generalize (w1.alloc (.cells #[.int .i64 (s.what k'), .int .i64 (s.n k'), .bool (s.ok k')] 51)).drew = w2 at *
        obtain ⟨lv2, gv2, hh, hlr, hgr, hol, hog⟩ := HPe.out.hp
        obtain ⟨⟨c0, c1, c2, c3⟩, ⟨f0, f1, f2, f3⟩, hlt⟩ := cell_five hh
        clear hh hlr hgr hol hog
        have HPf := Lib.hid (HPe.out.step ((k' : Int) + 1) (by omega))
        have HKf := Lib.hid (HKe.out.setCell ⟨p, 1, none⟩ (.inl (.inl rfl)) (.int .i64 ((k' : Int) + 1)))
        have HXf := Lib.hid (hp_set HXe.out ⟨p, 1, none⟩ (.int .i64 ((k' : Int) + 1)) hxp)
        obtain ⟨x0, x1, x2⟩ := cell_three HXf.out
        go_wp2_with fail
        generalize w2.setCell ⟨p, 1, none⟩ (.int .i64 ((k' : Int) + 1)) = w3 at *
        clear c0 c1 c2 c3 f0 f1 f2 f3 hlt HPe HKe HXe
        obtain ⟨⟨r0a, r0b⟩, ⟨r1a, r1b⟩⟩ := HS.out.2 k'
        have HL1 := Lib.hid (show log'.length ≤ k' + 1 by have := HL.out; omega)
        refine (pick_any (s.what k') 10 _ (by decide) (by decide) r0a r0b).mono ?_
        rintro e w' ⟨rfl, rfl⟩
        have hm0 := Int.emod_nonneg (s.what k') (show (10 : Int) ≠ 0 by decide)
        have hm1 := Int.emod_lt_of_pos (s.what k') (show (0 : Int) < 10 by decide)
        have hcases : (s.what k' % 10 = 4 ∨ s.what k' % 10 = 5) ∨ s.what k' % 10 = 6 ∨ s.what k' % 10 = 7 ∨ s.what k' % 10 = 8 ∨ s.what k' % 10 = 9 ∨ (0 ≤ s.what k' % 10 ∧ s.what k' % 10 < 4) := by omega
        clear hm0 hm1 r0a r0b
        have HRn := Lib.hid (And.intro r1a r1b)
        clear r1a r1b
        rcases hcases with e0 | e0 | e0 | e0 | e0 | e0
        case' inl =>
          by_cases hdd : deep < 6
          case' pos =>
            have hdi : (deep : Int) < 6 := by omega
            have HPL := Lib.hid (pl_in s deep k' log' hkl e0 hdd)
            have HGE := Lib.hid (And.intro (pl_ge s 60 (deep + 1) (k' + 1) log' (by omega)) (And.intro (pl_log_le s 60 (deep + 1) (k' + 1) log' (by omega) (by omega)) (pl_e s 60 (deep + 1) (k' + 1) log' (by omega))))
            have hcall : Calls Try.prog 22 #[.pointer (some ⟨p, 0, none⟩), .int .i64 ((deep : Int) + 1)] w3 (WantEnd B0 p (some ⟨b, off, none⟩) lc s (deep + 1) (k' + 1) log' gs lr' gr w3) := IH.out (deep + 1) (k' + 1) log' gs lr' gr w3 (by omega) (by omega) (by omega) HL1.out HPf.out
            unfold WantEnd at hcall
            generalize pl s (deep + 1) (k' + 1) log' = r at *
            obtain ⟨⟨e1, to1⟩, at1, log1⟩ := r
            have HC := Lib.hid hcall
            clear hcall
            have hu0 : (0 : Int) ≤ (to1 : Int) := by omega
            rcases e0 with e0 | e0
            all_goals
              rw [e0]
              clear e0
              go_wp2_with fail
              refine HC.out.mono ?_
              rintro e w4 ⟨rfl, lr4, hp4, hf4, hk4⟩
              obtain ⟨g1, ⟨g2, g3⟩, g4, g5⟩ := HGE.out
              try dsimp only at g1 g2 g3 g4 g5 hp4
              have HF4 := Lib.hid (HF.out.trans hf4 HKf.out.size)
              have HK4 := Lib.hid (own_step HKf.out HF.out hk4)
              have HG := Lib.hid (And.intro g1 (And.intro g2 g3))
              have HP4 := Lib.hid hp4
              clear hf4 hk4 g1 g2 g3 HGE x0 x1 x2 HC
              by_cases hup : to1 ≤ deep
              · have hui : (to1 : Int) ≤ (deep : Int) := by omega
                clear hp4
                go_wp2
                go_ret2
                unfold WantEnd
                rw [← HE.out, HPL.out, if_pos hup]
                exact ⟨rfl, lr4, HP4.out, HF4.out, HK4.out⟩
              · have hui : (deep : Int) < (to1 : Int) := by omega
                obtain ⟨lv4, gv4, hh, hlr, hgr, hol, hog⟩ := hp4.hp
                obtain ⟨⟨c0, c1, c2, c3⟩, ⟨f0, f1, f2, f3⟩, hlt⟩ := cell_five hh
                obtain ⟨la4, lc4, rfl, _⟩ := owns_form hol
                obtain ⟨ri, I⟩ := rowInt
                have HO5 := Lib.hid (owns_keep hol ((Kp.refl (fun _ => False) w4).alloc (.cells #[.int .i64 (1000 + e1)] 3)) (fun _ _ => id))
                have HU5 := Lib.hid ((cell_one (hp_new w4 (.cells #[.int .i64 (1000 + e1)] 3))).1)
                have HP5 := Lib.hid (HP4.out.keepF ((Kp.refl (fun _ => False) w4).alloc (.cells #[.int .i64 (1000 + e1)] 3)))
                have HK5 := Lib.hid (HK4.out.alloc (.cells #[.int .i64 (1000 + e1)] 3))
                have HH5 := Lib.hid (hp_old hh (.cells #[.int .i64 (1000 + e1)] 3))
                have HLR := Lib.hid hlr
                have hn1 : log1.length + 1 ≤ 1000000 := by have := HG.out; have := HL.out; omega
                clear hp4 hh hlr hgr hol hog
                go_wp2_with (at_builtin; refine wpList_append_one rfl I (p + 1) (.tmp 81) (.tmp 84) rfl (.slice la4 log1.length lc4) log1.length _ rfl HO5.out (by simp; omega) w4.heap.size 1 (.int .i64 (1000 + e1)) rfl HU5.out rfl hn1 (by decide) ?_)
                intro v' w5 hown' hgr' hfr'
                obtain ⟨a', c', rfl, _⟩ := owns_form hown'
                have hp6 := HP5.out.logged hown' (by rw [← HLR.out]; exact hgr') (by rw [← HLR.out]; exact hfr')
                have hh6 : w5.heap[p]? = some (.cells #[.slice (some ⟨b, off, none⟩) s.ll lc, .int .i64 at1, .slice la4 log1.length lc4, gv4, .int .i64 0] 39 (0, 0)) := by
                  rw [hgr'.block p (by simp; omega) (fun e => by have := (HP5.out.row.1 p (by rw [← HLR.out]; exact e.symm)).1; omega)]
                  exact HH5.out
                obtain ⟨⟨q0, q1, q2, q3⟩, ⟨n0, n1, n2, n3⟩, hlt6⟩ := cell_five hh6
                have HP6 := Lib.hid hp6
                have HF6 := Lib.hid (HF4.out.trans (by rw [← HLR.out]; exact hfr') (by have := HK5.out.size; omega))
                have HK6 := Lib.hid ((HK5.out.grown hgr' (fun b hb => by
                  rcases HF4.out with e | ⟨n, e, hn⟩
                  · exact .inl (.inr (by rw [← e, ← HLR.out]; exact hb))
                  · rw [← HLR.out] at e; rw [e] at hb; cases hb; exact .inr hn)).setCell ⟨p, 2, none⟩ (.inl (.inl rfl)) (.slice a' (log1.length + 1) c'))
                have HE6 := Lib.hid (show pl s deep at1 (log1 ++ [1000 + e1]) = pl s deep k log by rw [← HE.out, HPL.out, if_neg hup])
                clear hown' hgr' hfr' hp6 hh6 c0 c1 c2 c3 f0 f1 f2 f3 hlt HO5 HU5 HP5 HK5 HH5 hn1
                go_wp2
                go_roundg (60 - at1)
                case rel => exact ⟨at1, _, _, rfl, by have := HG.out; omega, by have := HG.out; omega, Lib.hid (by have := HG.out; have := HL.out; simp; omega), HP6, HF6, HK6, HE6⟩
                case measure => have := HG.out; omega
          case' neg =>
            have hd6 : deep = 6 := by omega
            have HE6 := Lib.hid (show pl s deep (k' + 1) log' = pl s deep k log by rw [← HE.out, pl_no s deep k' log' hkl e0 hdd])
            subst hd6
            rcases e0 with e0 | e0
            all_goals
              rw [e0]
              clear e0
              go_wp2
              go_roundg (60 - (k' + 1))
              case rel => exact ⟨k' + 1, log', lr', rfl, by omega, by omega, HL1, HPf, HF, HKf, HE6⟩
              case measure => omega
        case' inr.inl =>
          have HE6 := Lib.hid (show ((0, deep), k' + 1, log') = pl s deep k log by rw [← HE.out, pl_6 s deep k' log' hkl e0])
          rw [e0]
          clear e0
          go_wp2
          go_ret2
          unfold WantEnd
          rw [← HE6.out]
          exact ⟨rfl, lr', HPf.out, HF.out, HKf.out⟩
        case' inr.inr.inl =>
          have HPL := Lib.hid (pl_7 s deep k' log' hkl e0)
          rw [e0]
          clear e0
          cases hok : s.ok k' with
          | true =>
            rw [hok] at x2
            have HE6 := Lib.hid (show pl s deep (k' + 1) log' = pl s deep k log by rw [← HE.out, HPL.out, hok]; rfl)
            clear hok HPL
            go_wp2
            go_roundg (60 - (k' + 1))
            case rel => exact ⟨k' + 1, log', lr', rfl, by omega, by omega, HL1, HPf, HF, HKf, HE6⟩
            case measure => omega
          | false =>
            rw [hok] at x2
            have HE6 := Lib.hid (show ((1 + s.n k' % 18, deep), k' + 1, log') = pl s deep k log by rw [← HE.out, HPL.out, hok]; rfl)
            clear hok HPL
            have hr1 := HRn.out.1; have hr2 := HRn.out.2
            have hm0 := Int.emod_nonneg (s.n k') (show (18 : Int) ≠ 0 by decide)
            have hm1 := Int.emod_lt_of_pos (s.n k') (show (0 : Int) < 18 by decide)
            have hd0 : (0 : Int) ≤ (deep : Int) := by omega
            go_wp2_with (go_at_call 7; refine (pick_any (s.n k') 18 _ (by decide) (by decide) hr1 hr2).mono ?_; rintro e w' ⟨rfl, rfl⟩)
            go_ret2
            unfold WantEnd
            rw [← HE6.out]
            exact ⟨rfl, lr', HPf.out, HF.out, HKf.out⟩
        case' inr.inr.inr.inl =>
          have HPL := Lib.hid (pl_8 s deep k' log' hkl e0)
          rw [e0]
          clear e0
          have hr1 := HRn.out.1; have hr2 := HRn.out.2
          by_cases hz : s.n k' % 4 = 0
          · have HE6 := Lib.hid (show pl s deep (k' + 1) log' = pl s deep k log by rw [← HE.out, HPL.out, if_pos hz])
            go_wp2_with (go_at_call 7; refine (pick_any (s.n k') 4 _ (by decide) (by decide) hr1 hr2).mono ?_; rintro e w' ⟨rfl, rfl⟩; rw [hz])
            go_roundg (60 - (k' + 1))
            case rel => exact ⟨k' + 1, log', lr', rfl, by omega, by omega, HL1, HPf, HF, HKf, HE6⟩
            case measure => omega
          · have HE6 := Lib.hid (show ((s.n k' % 4, deep), k' + 1, log') = pl s deep k log by rw [← HE.out, HPL.out, if_neg hz])
            have hz1 : (s.n k' % 4 == 0) = false := by simp [hz]
            have hz2 : (s.n k' % 4 != 0) = true := by simp [hz]
            have hd0 : (0 : Int) ≤ (deep : Int) := by omega
            go_wp2_with (go_at_call 7; refine (pick_any (s.n k') 4 _ (by decide) (by decide) hr1 hr2).mono ?_; rintro e w' ⟨rfl, rfl⟩)
            go_ret2
            unfold WantEnd
            rw [← HE6.out]
            exact ⟨rfl, lr', HPf.out, HF.out, HKf.out⟩
        case' inr.inr.inr.inr.inl =>
          have HE6 := Lib.hid (show ((1 + (s.n k').tdiv 7 % 18, (s.n k' % (deep + 1)).toNat), k' + 1, log') = pl s deep k log by rw [← HE.out, pl_9 s deep k' log' hkl e0])
          rw [e0]
          clear e0
          have hr1 := HRn.out.1; have hr2 := HRn.out.2
          have hdd : (deep : Int) ≤ 6 := by omega
          have ht1 : -9223372036854775808 ≤ (s.n k').tdiv 7 ∧ (s.n k').tdiv 7 ≤ 9223372036854775807 := by
            have h7 := Int.tdiv_eq_ediv (a := s.n k') (b := 7)
            have hsg : (7 : Int).sign = 1 := rfl
            rw [hsg] at h7
            split at h7 <;> omega
          have hm0 := Int.emod_nonneg ((s.n k').tdiv 7) (show (18 : Int) ≠ 0 by decide)
          have hm1 := Int.emod_lt_of_pos ((s.n k').tdiv 7) (show (0 : Int) < 18 by decide)
          have hn0 := Int.emod_nonneg (s.n k') (show (deep : Int) + 1 ≠ 0 by omega)
          go_wp2_with fail
          refine (pick_any (s.n k') ((deep : Int) + 1) _ (by omega) (by omega) hr1 hr2).mono ?_
          rintro e w' ⟨rfl, rfl⟩
          go_wp2_with fail
          refine (pick_any ((s.n k').tdiv 7) 18 _ (by decide) (by decide) ht1.1 ht1.2).mono ?_
          rintro e w' ⟨rfl, rfl⟩
          go_wp2
          go_ret2
          unfold WantEnd
          rw [← HE6.out]
          refine ⟨?_, lr', HPf.out, HF.out, HKf.out⟩
          have e5 : (((s.n k' % ((deep : Int) + 1)).toNat : Nat) : Int) = s.n k' % ((deep : Int) + 1) := Int.toNat_of_nonneg hn0
          show _ = Ending.returned (.tuple #[.int .i64 (1 + (s.n k').tdiv 7 % 18), .int .i64 (((s.n k' % ((deep : Int) + 1)).toNat : Nat) : Int)])
          rw [e5]
          rfl
        case' inr.inr.inr.inr.inr =>
          have HE6 := Lib.hid (show pl s deep (k' + 1) (log' ++ [s.n k' % 100]) = pl s deep k log by rw [← HE.out, pl_log s deep k' log' hkl e0])
          have hr1 := HRn.out.1; have hr2 := HRn.out.2
          have hp4 := HPf.out.keepF ((Kp.refl (fun _ => False) w3).drew)
          obtain ⟨lv4, gv4, hh, hlr, hgr, hol, hog⟩ := hp4.hp
          obtain ⟨⟨c0, c1, c2, c3⟩, ⟨f0, f1, f2, f3⟩, hlt⟩ := cell_five hh
          obtain ⟨la4, lc4, rfl, _⟩ := owns_form hol
          obtain ⟨ri, I⟩ := rowInt
          have HO5 := Lib.hid (owns_keep hol ((Kp.refl (fun _ => False) w3.drew).alloc (.cells #[.int .i64 (s.n k' % 100)] 3)) (fun _ _ => id))
          have HU5 := Lib.hid ((cell_one (hp_new w3.drew (.cells #[.int .i64 (s.n k' % 100)] 3))).1)
          have HP5 := Lib.hid (hp4.keepF ((Kp.refl (fun _ => False) w3.drew).alloc (.cells #[.int .i64 (s.n k' % 100)] 3)))
          have HK5 := Lib.hid ((HKf.out.drew).alloc (.cells #[.int .i64 (s.n k' % 100)] 3))
          have HH5 := Lib.hid (hp_old hh (.cells #[.int .i64 (s.n k' % 100)] 3))
          have HLR := Lib.hid hlr
          have hn1 : log'.length + 1 ≤ 1000000 := by have := HL1.out; omega
          clear hp4 hh hlr hgr hol hog
          generalize s.what k' % 10 = cc at *
          have q4 : (cc == 4) = false := by simp; omega
          have q5 : (cc == 5) = false := by simp; omega
          have q6 : (cc == 6) = false := by simp; omega
          have q7 : (cc == 7) = false := by simp; omega
          have q8 : (cc == 8) = false := by simp; omega
          have q9 : (cc == 9) = false := by simp; omega
          clear e0
          have c2w : w3.cell? ⟨p, 2, none⟩ = some (.slice la4 log'.length lc4) := c2
          have hsz : w3.drew.heap.size = w3.heap.size := rfl
          have HX5 := Lib.hid (hp_old (show w3.drew.heap[x]? = some (.cells #[.int .i64 (s.what k'), .int .i64 (s.n k'), .bool (s.ok k')] 51 (0, 0)) from HXf.out) (.cells #[.int .i64 (s.n k' % 100)] 3))
          have c2a : (w3.alloc (.cells #[.int .i64 (s.n k' % 100)] 3)).cell? ⟨p, 2, none⟩ = some (.slice la4 log'.length lc4) := (cell_five (show (w3.alloc (.cells #[.int .i64 (s.n k' % 100)] 3)).heap[p]? = _ from HH5.out)).1.2.2.1
          go_wp2_with fail
          go_region_law (first
            | (go_simp; go_at_call 7; refine (pick_any (s.n k') 100 _ (by decide) (by decide) hr1 hr2).mono ?_; rintro e w' ⟨rfl, rfl⟩)
            | (refine step_append_one rfl I (p + 1) (.tmp 52) (.tmp 56) rfl (.slice la4 log'.length lc4) log'.length _ rfl HO5.out (by simp; omega) w3.heap.size 1 (.int .i64 (s.n k' % 100)) rfl HU5.out rfl hn1 (by decide) ?_; intro v' w5 hown' hgr' hfr'; obtain ⟨a', c', rfl, _⟩ := owns_form hown'; have HOW := Lib.hid hown'; have HGR := Lib.hid hgr'; have HFR := Lib.hid hfr'; have HH6 : Hid (w5.heap[p]? = some (.cells #[.slice (some ⟨b, off, none⟩) s.ll lc, .int .i64 ((k' + 1 : Nat) : Int), .slice la4 log'.length lc4, gv4, .int .i64 0] 39 (0, 0))) := (by show _ = _; rw [hgr'.block p (by simp; omega) (fun e => by have := (HP5.out.row.1 p (by rw [← HLR.out]; exact e.symm)).1; omega)]; exact HH5.out); obtain ⟨⟨q0, q1, q2, q3⟩, ⟨n0, n1, n2, n3⟩, hlt6⟩ := cell_five HH6.out; have HX6 : Hid (w5.heap[x]? = some (.cells #[.int .i64 (s.what k'), .int .i64 (s.n k'), .bool (s.ok k')] 51 (0, 0))) := (by show _ = _; rw [hgr'.block x (hp_lt HX5.out) (fun e => HX0.out.2.1 x (HLR.out.symm.trans e.symm) rfl)]; exact HX5.out); obtain ⟨y0, y1, y2⟩ := cell_three HX6.out; clear hown' hgr' hfr'))
          all_goals
            have HP6 := Lib.hid (HP5.out.logged HOW.out (by rw [← HLR.out]; exact HGR.out) (by rw [← HLR.out]; exact HFR.out))
            have HF6 := Lib.hid (HF.out.trans (by rw [← HLR.out]; exact HFR.out) HK5.out.size)
            have HK6 := Lib.hid ((HK5.out.grown HGR.out (fun b hb => by
              rcases HF.out with e | ⟨n, e, hn⟩
              · exact .inl (.inr (by rw [← e, ← HLR.out]; exact hb))
              · rw [← HLR.out] at e; rw [e] at hb; cases hb; exact .inr hn)).setCell ⟨p, 2, none⟩ (.inl (.inl rfl)) (.slice a' (log'.length + 1) c'))
            clear HOW HGR HFR q0 q1 q2 q3 n0 n1 n2 n3 hlt6 HH6 HX6 y0 y1 y2 c0 c1 c2 c3 f0 f1 f2 f3 hlt HO5 HU5 HP5 HK5 HH5 hn1 c2w c2a hr1 hr2
            go_wp2
            go_roundg (60 - (k' + 1))
            case rel => exact ⟨k' + 1, _, _, rfl, by omega, by omega, Lib.hid (by have := HL.out; simp; omega), HP6, HF6, HK6, HE6⟩
            case measure => omega
      · have hE : ((0, deep), k', log') = pl s deep k log := by rw [← HE.out, pl_end s deep k' log' hkl]
        have HE6 := Lib.hid hE
        clear hE
        have hd0 : (0 : Int) ≤ (deep : Int) := by omega
        by_cases hk3 : k' < s.ll
        case' pos =>
          have h1 : (k' : Int) < (s.ll : Int) := by omega
          have h2 : ¬ (k' : Int) < 60 := by omega
          have h2' : decide ((k' : Int) < 60) = false := by simp; omega
          go_wp2_with fail
          go_quiet (fail)
        case' neg =>
          have h1 : ¬ (k' : Int) < (s.ll : Int) := by omega
          have h1' : decide ((k' : Int) < (s.ll : Int)) = false := by simp; omega
          go_wp2_with fail
          go_quiet (fail)
        all_goals
          go_wp2
          go_ret2
          unfold WantEnd
          rw [← HE6.out]
          exact ⟨rfl, lr', HPl.out.keepF ((Kp.refl (fun _ => False) wr).drewN nq), HF.out, HK.out.drewN nq⟩
end Go.Proofs.Ytbjndmmelngbdaa
