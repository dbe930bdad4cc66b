/- GuardPlays: the closure within player.run: it comes to what the plain law says. Conditions: as the theorem names them. -/
import Derived.Test.YtbjndmmelngbdaaPlays1
import Derived.Test.YtbjndmmelngbdaaZed
namespace Go.Proofs.Ytbjndmmelngbdaa
open Go.RowKit Go.Deep

/-- The two boxes of the closure: they are kept whatever is done. -/
def Boxes (w : World) (p : Nat) (lr gr : Option Nat) (G : List Nat) (bp bd deep : Nat) : Prop :=
  ∀ w', Kp (Own p lr gr G) w w' → w'.cell? ⟨bp, 0, none⟩ = some (.pointer (some ⟨p, 0, none⟩)) ∧ w'.cell? ⟨bd, 0, none⟩ = some (.int .i64 (deep : Int))

set_option maxHeartbeats 6000000 in
set_option maxRecDepth 100000 in
theorem closure_any (B0 p : Nat) (la : Option Addr) (lc : Nat) (s : GSteps) (hs : Nums s) (m : Nat) (ih : RunAll B0 p la lc s m) (deep k : Nat) (log : List Int) (G : List Nat) (g : Nat) (lr gr : Option Nat) (bp bd : Nat) (w : World)
    (hm : 60 - k < m + 1) (hk : k ≤ 60) (hd : deep ≤ 6) (hlog : log.length ≤ k) (hst : St w B0 p la lc s deep k log G lr gr) (hgo : GOk w B0 p lr gr (G ++ [g])) (hbx : Boxes w p lr gr (G ++ [g]) bp bd deep) (hbp : bp ≠ p ∧ bd ≠ p) :
    Calls Try.prog 29 #[.pointer (some ⟨g, 0, none⟩), .pointer (some ⟨bp, 0, none⟩), .pointer (some ⟨bd, 0, none⟩)] w (ClEnd B0 p la lc s deep k log (G ++ [g]) lr gr w) := by
  have HST := Lib.hid hst; have HGO := Lib.hid hgo; have HBX := Lib.hid hbx; have IH := Lib.hid ih; have HS := Lib.hid hs
  have HGL := Lib.hid (show (G ++ [g]).length = deep + 1 by obtain ⟨_, _, _, h3, _⟩ := hst; simp [h3])
  obtain ⟨nbp, nbd⟩ := hbp
  clear hgo hbx ih hs
  obtain ⟨gs, g1, g2, g3, g4⟩ := hst
  obtain ⟨lv, gv, hh, hlr, hgr, hol, hog⟩ := g1.hp
  obtain ⟨⟨c0, c1, c2, c3⟩, ⟨f0, f1, f2, f3⟩, hlt⟩ := cell_five hh
  obtain ⟨ga, gc, rfl, hgc⟩ := owns_form hog
  obtain ⟨ri, I⟩ := rowGp
  have hdl : deep ≤ gs.length := by have h1 := congrArg List.length g2; simp at h1; omega
  have hsl := owns_slice I hog deep hdl (deep : Int) rfl
  have hog2 := owns_take hog deep hdl
  rw [← List.map_take, g2] at hog2
  obtain ⟨b0, b1⟩ := HBX.out w (Kp.refl _ _)
  have HO5 := Lib.hid (owns_keep hog2 (((Kp.refl (fun _ => False) w).drew).alloc (.cells #[.pointer (some ⟨g, 0, none⟩)] 27)) (fun _ _ => id))
  have HU5 := Lib.hid ((cell_one (hp_new w.drew (.cells #[.pointer (some ⟨g, 0, none⟩)] 27))).1)
  have HST5 := Lib.hid (HST.out.keepF (((Kp.refl (fun _ => False) w).drew).alloc (.cells #[.pointer (some ⟨g, 0, none⟩)] 27)))
  have HGO5 := Lib.hid (HGO.out.keepF (((Kp.refl (fun _ => False) w).drew).alloc (.cells #[.pointer (some ⟨g, 0, none⟩)] 27)))
  have HK5 := Lib.hid (((Kp.refl (Own p lr gr (G ++ [g])) w).drew).alloc (.cells #[.pointer (some ⟨g, 0, none⟩)] 27))
  have HH5 := Lib.hid (hp_old (show w.drew.heap[p]? = some (.cells #[.slice la s.ll lc, .int .i64 k, lv, .slice ga gs.length gc, .int .i64 0] 39 (0, 0)) from hh) (.cells #[.pointer (some ⟨g, 0, none⟩)] 27))
  have c3a : (w.alloc (.cells #[.pointer (some ⟨g, 0, none⟩)] 27)).cell? ⟨p, 3, none⟩ = some (.slice ga gs.length gc) := (cell_five (show (w.alloc (.cells #[.pointer (some ⟨g, 0, none⟩)] 27)).heap[p]? = _ from HH5.out)).1.2.2.2
  have hgr2 : (Value.slice ga deep gc).ownBlock = gr := by cases ga <;> exact hgr
  have HGR := Lib.hid hgr2
  have hn1 : deep + 1 ≤ 1000000 := by omega
  have hsz : w.drew.heap.size = w.heap.size := rfl
  have hpr := g1.row.2.1
  have HPR := Lib.hid hpr
  clear hgr2 hh hlr hgr hol hog hog2 g1 g2 g3 g4 hpr
  go_enter Try.func29, Try.ntmps29
  go_wp2_with fail
  refine region_z 12 (fun w' => w'.cell? ⟨bp, 0, none⟩ = some (.pointer (some ⟨p, 0, none⟩)) ∧ w'.cell? ⟨bd, 0, none⟩ = some (.int .i64 (deep : Int)) ∧ w'.cell? ⟨p, 3, none⟩ = some (.slice ga gs.length gc)) (by kernel_rfl) ⟨b0, b1, c3⟩ (fun hS => ?_)
  refine anyZ_take (i := 0) (v := ?_) rfl (by kernel_rfl) (by kernel_rfl) (by kernel_rfl) (by kernel_rfl) (fun _ _ _ h => h) (Or.inl ⟨by rfl, ?_⟩) (by assumption) ?_
  rotate_left 1
  · (intro w hSw; (try dsimp only at hSw); go_simp; try with_reducible rfl)
  try simp only [Act.put, List.setIfInBounds_toArray, List.set_cons_zero, List.set_cons_succ, List.getElem_toArray, List.getElem_cons_zero]
  refine anyZ_take (i := 1) (v := ?_) rfl (by kernel_rfl) (by kernel_rfl) (by kernel_rfl) (by kernel_rfl) (fun _ _ _ h => h) (Or.inl ⟨by rfl, ?_⟩) (by assumption) ?_
  rotate_left 1
  · (intro w hSw; (try dsimp only at hSw); go_simp; try with_reducible rfl)
  try simp only [Act.put, List.setIfInBounds_toArray, List.set_cons_zero, List.set_cons_succ, List.getElem_toArray, List.getElem_cons_succ, List.getElem_cons_zero]
  refine anyZ_take (i := 2) (v := ?_) rfl (by kernel_rfl) (by kernel_rfl) (by kernel_rfl) (by kernel_rfl) (fun _ _ _ h => h) (Or.inl ⟨by rfl, ?_⟩) (by assumption) ?_
  rotate_left 1
  · (intro w hSw; (try dsimp only at hSw); go_simp; try with_reducible rfl)
  try simp only [Act.put, List.setIfInBounds_toArray, List.set_cons_zero, List.set_cons_succ, List.getElem_toArray, List.getElem_cons_succ, List.getElem_cons_zero]
  refine anyZ_take (i := 3) (v := ?_) rfl (by kernel_rfl) (by kernel_rfl) (by kernel_rfl) (by kernel_rfl) (fun _ _ _ h => h) (Or.inl ⟨by rfl, ?_⟩) (by assumption) ?_
  rotate_left 1
  · (intro w hSw; (try dsimp only at hSw); go_simp; try with_reducible rfl)
  try simp only [Act.put, List.setIfInBounds_toArray, List.set_cons_zero, List.set_cons_succ, List.getElem_toArray, List.getElem_cons_succ, List.getElem_cons_zero]
  refine anyZ_take (i := 4) (v := ?_) rfl (by kernel_rfl) (by kernel_rfl) (by kernel_rfl) (by kernel_rfl) (fun _ _ _ h => h) (Or.inl ⟨by rfl, ?_⟩) (by assumption) ?_
  rotate_left 1
  · (intro w hSw; (try dsimp only at hSw); go_simp; try with_reducible rfl)
  try simp only [Act.put, List.setIfInBounds_toArray, List.set_cons_zero, List.set_cons_succ, List.getElem_toArray, List.getElem_cons_succ, List.getElem_cons_zero]
  refine anyZ_take (i := 5) (v := ?_) rfl (by kernel_rfl) (by kernel_rfl) (by kernel_rfl) (by kernel_rfl) (fun _ _ _ h => h) (Or.inl ⟨by rfl, ?_⟩) (by assumption) ?_
  rotate_left 1
  · (intro w hSw; (try dsimp only at hSw); go_simp; try with_reducible rfl)
  try simp only [Act.put, List.setIfInBounds_toArray, List.set_cons_zero, List.set_cons_succ, List.getElem_toArray, List.getElem_cons_succ, List.getElem_cons_zero]
  refine anyZ_take (i := 6) (v := ?_) rfl (by kernel_rfl) (by kernel_rfl) (by kernel_rfl) (by kernel_rfl) (fun _ _ _ h => h) (Or.inl ⟨by rfl, ?_⟩) (by assumption) ?_
  rotate_left 1
  · (intro w hSw; (try dsimp only at hSw); go_simp; try with_reducible rfl)
  try simp only [Act.put, List.setIfInBounds_toArray, List.set_cons_zero, List.set_cons_succ, List.getElem_toArray, List.getElem_cons_succ, List.getElem_cons_zero]
  refine anyZ_take (i := 7) (v := ?_) rfl (by kernel_rfl) (by kernel_rfl) (by kernel_rfl) (by kernel_rfl) (fun _ _ _ h => h) (Or.inl ⟨by rfl, ?_⟩) (by assumption) ?_
  rotate_left 1
  · (intro w hSw; (try dsimp only at hSw); go_simp; try with_reducible rfl)
  try simp only [Act.put, List.setIfInBounds_toArray, List.set_cons_zero, List.set_cons_succ, List.getElem_toArray, List.getElem_cons_succ, List.getElem_cons_zero]
  refine anyZ_one (i := 8) (by kernel_rfl) rfl (fun K hK => ?_)
  go_simp
  refine hK.out _ _ (fun _ => ?_) (fun hSS => ?_)
  · (first | exact ⟨e0, e1, q3⟩ | go_keep)
  have hS := hSS (by decide)
  clear hSS hK K
  try simp only [Act.put, List.setIfInBounds_toArray, List.set_cons_zero, List.set_cons_succ, List.getElem_toArray, List.getElem_cons_succ, List.getElem_cons_zero]
  refine anyZ_one (i := 9) (by kernel_rfl) rfl (fun K hK => ?_)
  refine step_append_one rfl I (p + 1) (.tmp 12) (.tmp 14) rfl (.slice ga deep gc) deep _ rfl HO5.out (by simp; omega) w.heap.size 1 (.pointer (some ⟨g, 0, none⟩)) rfl HU5.out rfl hn1 (by decide) ?_
  intro v' w5 hown' hgr' hfr'
  obtain ⟨a', c', rfl, _⟩ := owns_form hown'
  have HOW := Lib.hid hown'; have HGW := Lib.hid hgr'; have HFR := Lib.hid hfr'
  have HK6 := Lib.hid (HK5.out.grown HGW.out (fun b hb => .inl (.inr (.inr (.inl (HGR.out.symm.trans hb))))))
  obtain ⟨e0, e1⟩ := HBX.out w5 HK6.out
  have HH6 : Hid (w5.heap[p]? = some (.cells #[.slice la s.ll lc, .int .i64 k, lv, .slice ga gs.length gc, .int .i64 0] 39 (0, 0))) := by
    show _ = _
    rw [hgr'.block p (by simp; omega) (fun e => by have := (HPR.out p (HGR.out.symm.trans e.symm)).1; omega)]
    exact HH5.out
  obtain ⟨⟨q0, q1, q2, q3⟩, ⟨n0, n1, n2, n3⟩, hlt6⟩ := cell_five HH6.out
  clear hown' hgr' hfr'
  refine hK.out _ _ (fun _ => ?_) (fun hSS => ?_)
  · (first | exact ⟨e0, e1, q3⟩ | go_keep)
  have hS := hSS (by decide)
  clear hSS hK K
  try simp only [Act.put, List.setIfInBounds_toArray, List.set_cons_zero, List.set_cons_succ, List.getElem_toArray, List.getElem_cons_succ, List.getElem_cons_zero]
  refine anyZ_take (i := 10) (v := ?_) rfl (by kernel_rfl) (by kernel_rfl) (by kernel_rfl) (by kernel_rfl) (fun _ _ _ h => h) (Or.inl ⟨by rfl, ?_⟩) (by assumption) ?_
  rotate_left 1
  · (intro w hSw; (try dsimp only at hSw); go_simp; try with_reducible rfl)
  try simp only [Act.put, List.setIfInBounds_toArray, List.set_cons_zero, List.set_cons_succ, List.getElem_toArray, List.getElem_cons_succ, List.getElem_cons_zero]
  refine anyZ_take (i := 11) (v := ?_) rfl (by kernel_rfl) (by kernel_rfl) (by kernel_rfl) (by kernel_rfl) (fun _ _ _ h => h) (Or.inl ⟨by rfl, ?_⟩) (by assumption) ?_
  rotate_left 1
  · (intro w hSw; (try dsimp only at hSw); go_simp; try with_reducible rfl)
  try simp only [Act.put, List.setIfInBounds_toArray, List.set_cons_zero, List.set_cons_succ, List.getElem_toArray, List.getElem_cons_succ, List.getElem_cons_zero]
  refine anyZ_one (i := 12) (by kernel_rfl) rfl (fun K hK => ?_)
  go_simp
  refine hK.out _ _ (fun h => absurd rfl h) (fun _ => ?_)
  clear hK K
  try simp only [Act.put, List.setIfInBounds_toArray, List.set_cons_zero, List.set_cons_succ, List.getElem_toArray, List.getElem_cons_succ, List.getElem_cons_zero]
  refine anyZ_done (by kernel_rfl) ?_ _
  have hst7 := HST5.out.guarded HGO5.out (v' := .slice a' (deep + 1) c') (by rw [HGL.out, List.map_append]; exact HOW.out) (by rw [← HGR.out]; exact HGW.out) (by rw [← HGR.out]; exact HFR.out)
  rw [HGL.out] at hst7
  have HST7 := Lib.hid hst7
  have HFG7 : Hid (Fresh w gr (Value.slice a' (deep + 1) c').ownBlock) := by
    refine Fresh.trans (.inl rfl) (w1 := w.drew.alloc (.cells #[.pointer (some ⟨g, 0, none⟩)] 27)) ?_ HK5.out.size
    rw [← HGR.out]; exact HFR.out
  have HK7 := Lib.hid (HK6.out.setCell ⟨p, 3, none⟩ (.inl (.inl rfl)) (.slice a' (deep + 1) c'))
  have HGg := Lib.hid (show (G ++ [g])[deep]? = some g by
    have h1 := HGL.out
    have h2 : G.length = deep := by simpa using h1
    rw [← h2]; simp)
  clear hst7 HOW HGW HFR HK6 HK5 HST5 HGO5 HO5 HU5 HH5 HH6 q0 q1 q2 q3 n0 n1 n2 n3 hlt6 e0 e1 c0 c1 c2 c3 c3a f0 f1 f2 f3 hlt b0 b1 hsl HPR hsz hn1 hdl hgc hS HGR HST
  generalize (Value.slice a' (deep + 1) c').ownBlock = gr7 at *
  generalize w5.setCell ⟨p, 3, none⟩ (.slice a' (deep + 1) c') = w7 at *
  go_wp2_with fail
  go_loopg [] (60 - k) (fun gk wr => ∃ (k' : Nat) (log' : List Int) (lr' gr' : Option Nat), gk = 60 - k' ∧ k ≤ k' ∧ k' ≤ 60 ∧ Hid (log'.length ≤ k') ∧ Hid (St wr B0 p la lc s (deep + 1) k' log' (G ++ [g]) lr' gr') ∧ Hid (Fresh w lr lr' ∧ Fresh w gr gr') ∧ Hid (Kp (Own p lr gr (G ++ [g])) w wr) ∧ Hid (pl s deep k' log' = pl s deep k log))
  case atStart => exact ⟨k, log, lr, gr7, rfl, Nat.le_refl _, hk, Lib.hid hlog, HST7, Lib.hid ⟨.inl rfl, HFG7.out⟩, HK7, Lib.hid rfl⟩
  case round =>
    obtain ⟨k', log', lr', gr', rfl, hk1, hk2, HL, HSt, HF, HK, HE⟩ := hrel
    obtain ⟨gs, g1, g2, g3, g4⟩ := HSt.out
    obtain ⟨lv, gv, hh, hlr, hgr, hol, hog⟩ := g1.hp
    obtain ⟨⟨c0, c1, c2, c3⟩, ⟨f0, f1, f2, f3⟩, hlt⟩ := cell_five hh
    obtain ⟨b0, b1⟩ := HBX.out wr HK.out
    have HG1 := Lib.hid g1
    have hll : s.ll ≤ 9223372036854775807 := HS.out.1
    clear hh hlr hgr hol hog g1 g2 g3 g4
    by_cases hkl : k' < s.ll ∧ k' < 60
    · have h1 : (k' : Int) < (s.ll : Int) := by omega
      have h2 : (k' : Int) < 60 := by omega
      obtain ⟨b, off, hla, hbB, d0, d1, d2⟩ := HG1.out.steps k' hkl.1
      subst hla
      go_wp2_with fail
      go_quiet (fail)
      have HSd := Lib.hid (HSt.out.keepF ((Kp.refl (fun _ => False) wr).drewN nq))
      have HKd := Lib.hid (HK.out.drewN nq)
      clear c0 c1 c2 c3 f0 f1 f2 f3 hlt d0 d1 d2 HSt HK HG1 b0 b1
      generalize wr.drewN nq = w1 at *
      obtain ⟨gs, g1, g2, g3, g4⟩ := HSd.out
      obtain ⟨lv, gv, hh, hlr, hgr, hol, hog⟩ := g1.hp
      obtain ⟨⟨c0, c1, c2, c3⟩, ⟨f0, f1, f2, f3⟩, hlt⟩ := cell_five hh
      obtain ⟨b0, b1⟩ := HBX.out w1 HKd.out
      obtain ⟨b', off', hla, hbB, d0, d1, d2⟩ := g1.steps k' hkl.1
      cases hla
      have hrow := HSd.out.row
      have HROW := Lib.hid hrow
      clear hh hlr hgr hol hog g1 g2 g3 g4 hrow
      go_wp2_with fail
      go_region_held3 (fun w' => w'.cell? ⟨bp, 0, none⟩ = some (.pointer (some ⟨p, 0, none⟩)) ∧ w'.cell? ⟨p, 0, none⟩ = some (.slice (some ⟨b, off, none⟩) s.ll lc) ∧ w'.cell? ⟨p, 1, none⟩ = some (.int .i64 (k' : Int)) ∧ w'.cell? ⟨b, off + k' * 3, none⟩ = some (.int .i64 (s.what k')) ∧ w'.cell? ⟨b, off + k' * 3 + 1, none⟩ = some (.int .i64 (s.n k')) ∧ w'.cell? ⟨b, off + k' * 3 + 2, none⟩ = some (.bool (s.ok k'))) (go_keep) ((first | fail))
      have HSe := Lib.hid (HSd.out.keepF (((Kp.refl (fun _ => False) w1).alloc (.cells #[.int .i64 (s.what k'), .int .i64 (s.n k'), .bool (s.ok k')] 51)).drew))
      have HKe := Lib.hid ((HKd.out.alloc (.cells #[.int .i64 (s.what k'), .int .i64 (s.n k'), .bool (s.ok k')] 51)).drew)
      have HXe := Lib.hid (show ((w1.alloc (.cells #[.int .i64 (s.what k'), .int .i64 (s.n k'), .bool (s.ok k')] 51)).drew).heap[w1.heap.size]? = some (.cells #[.int .i64 (s.what k'), .int .i64 (s.n k'), .bool (s.ok k')] 51 (0, 0)) from hp_new _ _)
      have hxp : w1.heap.size ≠ p := by omega
      have HX0 := Lib.hid (show (∀ b, Own p lr' gr' (G ++ [g]) b → w1.heap.size ≠ b) ∧ w.heap.size ≤ w1.heap.size from ⟨fun b hb => by have := (HROW.out b hb).2; omega, HKd.out.size⟩)
      generalize hx : w1.heap.size = x at *
      clear c0 c1 c2 c3 f0 f1 f2 f3 hlt d0 d1 d2 HSd HKd hx b0 b1 HROW
      generalize (w1.alloc (.cells #[.int .i64 (s.what k'), .int .i64 (s.n k'), .bool (s.ok k')] 51)).drew = w2 at *
      obtain ⟨gs, g1, g2, g3, g4⟩ := HSe.out
      obtain ⟨lv, gv, hh, hlr, hgr, hol, hog⟩ := g1.hp
      obtain ⟨⟨c0, c1, c2, c3⟩, ⟨f0, f1, f2, f3⟩, hlt⟩ := cell_five hh
      obtain ⟨b0, b1⟩ := HBX.out w2 HKe.out
      clear hh hlr hgr hol hog g1 g2 g3 g4
      have HSf := Lib.hid (HSe.out.step ((k' : Int) + 1) (by omega))
      have HKf := Lib.hid (HKe.out.setCell ⟨p, 1, none⟩ (.inl (.inl rfl)) (.int .i64 ((k' : Int) + 1)))
      have HXf := Lib.hid (hp_set HXe.out ⟨p, 1, none⟩ (.int .i64 ((k' : Int) + 1)) hxp)
      obtain ⟨x0, x1, x2⟩ := cell_three HXf.out
      go_wp2_with fail
      clear c0 c1 c2 c3 f0 f1 f2 f3 hlt b0 b1 HSe HKe HXe
      generalize w2.setCell ⟨p, 1, none⟩ (.int .i64 ((k' : Int) + 1)) = w3 at *
      obtain ⟨b0, b1⟩ := HBX.out w3 HKf.out
      obtain ⟨⟨r0a, r0b⟩, ⟨r1a, r1b⟩⟩ := HS.out.2 k'
      have HL1 := Lib.hid (show log'.length ≤ k' + 1 by have := HL.out; omega)
      refine (pick_any (s.what k') 10 _ (by decide) (by decide) r0a r0b).mono ?_
      rintro e w' ⟨rfl, rfl⟩
      have hm0 := Int.emod_nonneg (s.what k') (show (10 : Int) ≠ 0 by decide)
      have hm1 := Int.emod_lt_of_pos (s.what k') (show (0 : Int) < 10 by decide)
      have hcases : (s.what k' % 10 = 4 ∨ s.what k' % 10 = 5) ∨ s.what k' % 10 = 6 ∨ s.what k' % 10 = 7 ∨ s.what k' % 10 = 8 ∨ s.what k' % 10 = 9 ∨ (0 ≤ s.what k' % 10 ∧ s.what k' % 10 < 4) := by omega
      have HRn := Lib.hid (And.intro r1a r1b)
      clear hm0 hm1 r0a r0b r1a r1b
      rcases hcases with e0 | e0 | e0 | e0 | e0 | e0
      case' inl =>
        by_cases hdd : deep < 6
        case' pos =>
          have hdi : (deep : Int) < 6 := by omega
          have HPL := Lib.hid (pl_in s deep k' log' hkl e0 hdd)
          have HGE := Lib.hid (And.intro (pl_ge s 60 (deep + 1) (k' + 1) log' (by omega)) (And.intro (pl_log_le s 60 (deep + 1) (k' + 1) log' (by omega) (by omega)) (pl_e s 60 (deep + 1) (k' + 1) log' (by omega))))
          have hcall : Calls Try.prog 21 #[.pointer (some ⟨p, 0, none⟩), .int .i64 ((deep : Int) + 1)] w3 (RunEnd B0 p (some ⟨b, off, none⟩) lc s (deep + 1) (k' + 1) log' (G ++ [g]) lr' gr' w3) := IH.out (deep + 1) (k' + 1) log' (G ++ [g]) lr' gr' w3 (by omega) (by omega) (by omega) HL1.out HSf.out
          have HC := Lib.hid hcall
          clear hcall
          rcases e0 with e0 | e0
          all_goals
            rw [e0]
            clear e0
            go_wp2_with fail
            refine HC.out.mono ?_
            rintro e w4 ⟨⟨lr4, gr4, hs4, hf4, hg4⟩, hk4, hcase⟩
            have HF4 := Lib.hid (And.intro (HF.out.1.trans hf4 HKf.out.size) (HF.out.2.trans hg4 HKf.out.size))
            have HK4 := Lib.hid (own_step2 HKf.out HF.out.1 HF.out.2 hk4)
            have HS4 := Lib.hid hs4
            clear hs4 hf4 hg4 hk4 HC x0 x1 x2 b0 b1
            generalize pl s (deep + 1) (k' + 1) log' = r at *
            obtain ⟨⟨e1, to1⟩, at1, log1⟩ := r
            rcases hcase with ⟨hto, rfl⟩ | ⟨hto, older, g', hg', rfl, hol, hcell⟩
            case' inr =>
              dsimp only at hto hg' hcell
              refine ⟨rfl, ⟨lr4, gr4, ?_⟩, HK4.out, .inr ⟨older, g', ?_, rfl, hol, ?_⟩⟩
              all_goals rw [← HE.out, HPL.out, if_pos (show to1 ≤ deep by omega)]
              · exact ⟨HS4.out, HF4.out.1, HF4.out.2⟩
              · exact hg'
              · exact hcell
            case' inl =>
              dsimp only at hto
              obtain ⟨h1g, ⟨h2g, h3g⟩, h4g, h5g⟩ := HGE.out
              try dsimp only at h1g h2g h3g h4g h5g
              have HG := Lib.hid (And.intro h1g (And.intro h2g h3g))
              clear h1g h2g h3g HGE
              have hto1 : ¬ to1 ≤ deep := by omega
              have HE6 := Lib.hid (show pl s deep at1 (log1 ++ [1000 + e1]) = pl s deep k log by rw [← HE.out, HPL.out, if_neg hto1])
              have hrw : ∀ b, lr4 = some b → Own p lr gr (G ++ [g]) b ∨ w.heap.size ≤ b := fun b hb => by
                rcases HF4.out.1 with e | ⟨n, e, hn⟩
                · exact .inl (.inr (.inl (by rw [← e]; exact hb)))
                · rw [e] at hb; cases hb; exact .inr hn
              have HRW := Lib.hid hrw
              obtain ⟨gs, g1, g2, g3, g4⟩ := HS4.out
              obtain ⟨lv4, gv4, hh, hlr, hgr, hol, hog⟩ := g1.hp
              obtain ⟨⟨c0, c1, c2, c3⟩, ⟨f0, f1, f2, f3⟩, hlt⟩ := cell_five hh
              obtain ⟨la4, lc4, rfl, _⟩ := owns_form hol
              obtain ⟨b0, b1⟩ := HBX.out w4 HK4.out
              obtain ⟨ril, IL⟩ := rowInt
              have HO5 := Lib.hid (owns_keep hol (((Kp.refl (fun _ => False) w4).drew).alloc (.cells #[.int .i64 (1000 + e1)] 3)) (fun _ _ => id))
              have HU5 := Lib.hid ((cell_one (hp_new w4.drew (.cells #[.int .i64 (1000 + e1)] 3))).1)
              have HS5 := Lib.hid (HS4.out.keepF (((Kp.refl (fun _ => False) w4).drew).alloc (.cells #[.int .i64 (1000 + e1)] 3)))
              have HK5 := Lib.hid ((HK4.out.drew).alloc (.cells #[.int .i64 (1000 + e1)] 3))
              have HH5 := Lib.hid (hp_old (show w4.drew.heap[p]? = some (.cells #[.slice (some ⟨b, off, none⟩) s.ll lc, .int .i64 at1, .slice la4 log1.length lc4, gv4, .int .i64 0] 39 (0, 0)) from hh) (.cells #[.int .i64 (1000 + e1)] 3))
              have HLR := Lib.hid hlr
              have HPR := Lib.hid g1.row.1
              have hn1 : log1.length + 1 ≤ 1000000 := by have := HG.out; have := HL.out; omega
              have hsz : w4.drew.heap.size = w4.heap.size := rfl
              clear hh hlr hgr hol hog g1 g2 g3 g4 hrw HPL
              go_wp2_with fail
              refine region_z 10 (fun w' => w'.cell? ⟨bp, 0, none⟩ = some (.pointer (some ⟨p, 0, none⟩)) ∧ w'.cell? ⟨p, 2, none⟩ = some (.slice la4 log1.length lc4)) (by kernel_rfl) ⟨b0, c2⟩ (fun hS => ?_)
              refine anyZ_take (i := 0) (v := ?_) rfl (by kernel_rfl) (by kernel_rfl) (by kernel_rfl) (by kernel_rfl) (fun _ _ _ h => h) (Or.inl ⟨by rfl, ?_⟩) (by assumption) ?_
              rotate_left 1
              · (intro w hSw; (try dsimp only at hSw); go_simp; try with_reducible rfl)
              try simp only [Act.put, List.setIfInBounds_toArray, List.set_cons_zero, List.set_cons_succ, List.getElem_toArray, List.getElem_cons_zero]
              refine anyZ_take (i := 1) (v := ?_) rfl (by kernel_rfl) (by kernel_rfl) (by kernel_rfl) (by kernel_rfl) (fun _ _ _ h => h) (Or.inl ⟨by rfl, ?_⟩) (by assumption) ?_
              rotate_left 1
              · (intro w hSw; (try dsimp only at hSw); go_simp; try with_reducible rfl)
              try simp only [Act.put, List.setIfInBounds_toArray, List.set_cons_zero, List.set_cons_succ, List.getElem_toArray, List.getElem_cons_succ, List.getElem_cons_zero]
              refine anyZ_take (i := 2) (v := ?_) rfl (by kernel_rfl) (by kernel_rfl) (by kernel_rfl) (by kernel_rfl) (fun _ _ _ h => h) (Or.inl ⟨by rfl, ?_⟩) (by assumption) ?_
              rotate_left 1
              · (intro w hSw; (try dsimp only at hSw); go_simp; try with_reducible rfl)
              try simp only [Act.put, List.setIfInBounds_toArray, List.set_cons_zero, List.set_cons_succ, List.getElem_toArray, List.getElem_cons_succ, List.getElem_cons_zero]
              refine anyZ_take (i := 3) (v := ?_) rfl (by kernel_rfl) (by kernel_rfl) (by kernel_rfl) (by kernel_rfl) (fun _ _ _ h => h) (Or.inl ⟨by rfl, ?_⟩) (by assumption) ?_
              rotate_left 1
              · (intro w hSw; (try dsimp only at hSw); go_simp; try with_reducible rfl)
              try simp only [Act.put, List.setIfInBounds_toArray, List.set_cons_zero, List.set_cons_succ, List.getElem_toArray, List.getElem_cons_succ, List.getElem_cons_zero]
              refine anyZ_take (i := 4) (v := ?_) rfl (by kernel_rfl) (by kernel_rfl) (by kernel_rfl) (by kernel_rfl) (fun _ _ _ h => h) (Or.inl ⟨by rfl, ?_⟩) (by assumption) ?_
              rotate_left 1
              · (intro w hSw; (try dsimp only at hSw); go_simp; try with_reducible rfl)
              try simp only [Act.put, List.setIfInBounds_toArray, List.set_cons_zero, List.set_cons_succ, List.getElem_toArray, List.getElem_cons_succ, List.getElem_cons_zero]
              refine anyZ_take (i := 5) (v := ?_) rfl (by kernel_rfl) (by kernel_rfl) (by kernel_rfl) (by kernel_rfl) (fun _ _ _ h => h) (Or.inl ⟨by rfl, ?_⟩) (by assumption) ?_
              rotate_left 1
              · (intro w hSw; (try dsimp only at hSw); go_simp; try with_reducible rfl)
              try simp only [Act.put, List.setIfInBounds_toArray, List.set_cons_zero, List.set_cons_succ, List.getElem_toArray, List.getElem_cons_succ, List.getElem_cons_zero]
              refine anyZ_one (i := 6) (by kernel_rfl) rfl (fun K hK => ?_)
              go_simp
              refine hK.out _ _ (fun _ => ?_) (fun hSS => ?_)
              · (first | exact ⟨e0, q2⟩ | go_keep)
              have hS := hSS (by decide)
              clear hSS hK K
              try simp only [Act.put, List.setIfInBounds_toArray, List.set_cons_zero, List.set_cons_succ, List.getElem_toArray, List.getElem_cons_succ, List.getElem_cons_zero]
              refine anyZ_one (i := 7) (by kernel_rfl) rfl (fun K hK => ?_)
              refine step_append_one rfl IL (p + 1) (.tmp 81) (.tmp 83) rfl (.slice la4 log1.length lc4) log1.length _ rfl HO5.out (by simp; omega) w4.heap.size 1 (.int .i64 (1000 + e1)) rfl HU5.out rfl hn1 (by decide) ?_
              intro v' w5 hown' hgr' hfr'
              obtain ⟨a', c', rfl, _⟩ := owns_form hown'
              have HOW := Lib.hid hown'; have HGW := Lib.hid hgr'; have HFR := Lib.hid hfr'
              have HK6 := Lib.hid (HK5.out.grown HGW.out (fun b hb => HRW.out b (HLR.out.symm.trans hb)))
              obtain ⟨e0, e1'⟩ := HBX.out w5 HK6.out
              have HH6 : Hid (w5.heap[p]? = some (.cells #[.slice (some ⟨b, off, none⟩) s.ll lc, .int .i64 at1, .slice la4 log1.length lc4, gv4, .int .i64 0] 39 (0, 0))) := by
                show _ = _
                rw [hgr'.block p (by simp; omega) (fun e => by have := (HPR.out p (HLR.out.symm.trans e.symm)).1; omega)]
                exact HH5.out
              obtain ⟨⟨q0, q1, q2, q3⟩, ⟨n0, n1, n2, n3⟩, hlt6⟩ := cell_five HH6.out
              clear hown' hgr' hfr'
              refine hK.out _ _ (fun _ => ?_) (fun hSS => ?_)
              · (first | exact ⟨e0, q2⟩ | go_keep)
              have hS := hSS (by decide)
              clear hSS hK K
              try simp only [Act.put, List.setIfInBounds_toArray, List.set_cons_zero, List.set_cons_succ, List.getElem_toArray, List.getElem_cons_succ, List.getElem_cons_zero]
              refine anyZ_take (i := 8) (v := ?_) rfl (by kernel_rfl) (by kernel_rfl) (by kernel_rfl) (by kernel_rfl) (fun _ _ _ h => h) (Or.inl ⟨by rfl, ?_⟩) (by assumption) ?_
              rotate_left 1
              · (intro w hSw; (try dsimp only at hSw); go_simp; try with_reducible rfl)
              try simp only [Act.put, List.setIfInBounds_toArray, List.set_cons_zero, List.set_cons_succ, List.getElem_toArray, List.getElem_cons_succ, List.getElem_cons_zero]
              refine anyZ_take (i := 9) (v := ?_) rfl (by kernel_rfl) (by kernel_rfl) (by kernel_rfl) (by kernel_rfl) (fun _ _ _ h => h) (Or.inl ⟨by rfl, ?_⟩) (by assumption) ?_
              rotate_left 1
              · (intro w hSw; (try dsimp only at hSw); go_simp; try with_reducible rfl)
              try simp only [Act.put, List.setIfInBounds_toArray, List.set_cons_zero, List.set_cons_succ, List.getElem_toArray, List.getElem_cons_succ, List.getElem_cons_zero]
              refine anyZ_one (i := 10) (by kernel_rfl) rfl (fun K hK => ?_)
              go_simp
              refine hK.out _ _ (fun h => absurd rfl h) (fun _ => ?_)
              clear hK K
              try simp only [Act.put, List.setIfInBounds_toArray, List.set_cons_zero, List.set_cons_succ, List.getElem_toArray, List.getElem_cons_succ, List.getElem_cons_zero]
              refine anyZ_done (by kernel_rfl) ?_ _
              have HS6 := Lib.hid (HS5.out.logged HOW.out (by rw [← HLR.out]; exact HGW.out) (by rw [← HLR.out]; exact HFR.out))
              have HF6 := Lib.hid (And.intro (HF4.out.1.trans (by rw [← HLR.out]; exact HFR.out) HK5.out.size) HF4.out.2)
              have HK7 := Lib.hid (HK6.out.setCell ⟨p, 2, none⟩ (.inl (.inl rfl)) (.slice a' (log1.length + 1) c'))
              clear HOW HGW HFR HK6 HH6 q0 q1 q2 q3 n0 n1 n2 n3 hlt6 e0 e1' c0 c1 c2 c3 f0 f1 f2 f3 hlt b0 b1 HO5 HU5 HS5 HK5 HH5 HLR HPR hn1 hsz hS HRW HF4 HK4 HS4
              generalize (Value.slice a' (log1.length + 1) c').ownBlock = lr6 at *
              generalize w5.setCell ⟨p, 2, none⟩ (.slice a' (log1.length + 1) c') = w6 at *
              obtain ⟨gs, g1, g2, g3, g4⟩ := HS6.out
              obtain ⟨lv6, gv6, hh, hlr, hgr, hol, hog⟩ := g1.hp
              obtain ⟨⟨c0, c1, c2, c3⟩, ⟨f0, f1, f2, f3⟩, hlt⟩ := cell_five hh
              obtain ⟨ga, gc, rfl, hgc⟩ := owns_form hog
              obtain ⟨b0, b1⟩ := HBX.out w6 HK7.out
              obtain ⟨rig, IG⟩ := rowGp
              have hdl : deep + 1 ≤ gs.length := by have h1 := congrArg List.length g2; simp at h1; have := HGL.out; simp at this; omega
              have hsl := owns_slice IG hog (deep + 1) hdl ((deep : Int) + 1) (by omega)
              have hw1 : IntKind.i64.wrap ((deep : Int) + 1) = (deep : Int) + 1 := IntWalk.i64_in _ (by omega)
              have hw2 : (0 : Int) ≤ (deep : Int) + 1 := by omega
              have hw3 : (deep : Int) + 1 ≤ (gc : Int) := by omega
              have hw4 : ((deep : Int) + 1).toNat = deep + 1 := by omega
              have hog2 := owns_take hog (deep + 1) hdl
              rw [← List.map_take, g2] at hog2
              have hgr2 : (Value.slice ga (deep + 1) gc).ownBlock = gr4 := by cases ga <;> exact hgr
              have hs8 := HS6.out.guarded g4 (v' := .slice ga (deep + 1) gc) (by rw [HGL.out]; exact hog2) (World.grownBy.refl _ _) (.inl hgr2)
              rw [HGL.out, hgr2] at hs8
              have HS8 := Lib.hid hs8
              have HK8 := Lib.hid (HK7.out.setCell ⟨p, 3, none⟩ (.inl (.inl rfl)) (.slice ga (deep + 1) gc))
              clear hh hlr hgr hol hog g1 g2 g3 g4 hog2 hgr2 hs8
              go_wp2_with fail
              refine region_z 10 (fun w' => w'.cell? ⟨bp, 0, none⟩ = some (.pointer (some ⟨p, 0, none⟩)) ∧ w'.cell? ⟨bd, 0, none⟩ = some (.int .i64 (deep : Int)) ∧ w'.cell? ⟨p, 3, none⟩ = some (.slice ga gs.length gc)) (by kernel_rfl) ⟨b0, b1, c3⟩ (fun hS => ?_)
              refine anyZ_take (i := 0) (v := ?_) rfl (by kernel_rfl) (by kernel_rfl) (by kernel_rfl) (by kernel_rfl) (fun _ _ _ h => h) (Or.inl ⟨by rfl, ?_⟩) (by assumption) ?_
              rotate_left 1
              · (intro w hSw; (try dsimp only at hSw); go_simp; try with_reducible rfl)
              try simp only [Act.put, List.setIfInBounds_toArray, List.set_cons_zero, List.set_cons_succ, List.getElem_toArray, List.getElem_cons_zero]
              refine anyZ_take (i := 1) (v := ?_) rfl (by kernel_rfl) (by kernel_rfl) (by kernel_rfl) (by kernel_rfl) (fun _ _ _ h => h) (Or.inl ⟨by rfl, ?_⟩) (by assumption) ?_
              rotate_left 1
              · (intro w hSw; (try dsimp only at hSw); go_simp; try with_reducible rfl)
              try simp only [Act.put, List.setIfInBounds_toArray, List.set_cons_zero, List.set_cons_succ, List.getElem_toArray, List.getElem_cons_succ, List.getElem_cons_zero]
              refine anyZ_take (i := 2) (v := ?_) rfl (by kernel_rfl) (by kernel_rfl) (by kernel_rfl) (by kernel_rfl) (fun _ _ _ h => h) (Or.inl ⟨by rfl, ?_⟩) (by assumption) ?_
              rotate_left 1
              · (intro w hSw; (try dsimp only at hSw); go_simp; try with_reducible rfl)
              try simp only [Act.put, List.setIfInBounds_toArray, List.set_cons_zero, List.set_cons_succ, List.getElem_toArray, List.getElem_cons_succ, List.getElem_cons_zero]
              refine anyZ_take (i := 3) (v := ?_) rfl (by kernel_rfl) (by kernel_rfl) (by kernel_rfl) (by kernel_rfl) (fun _ _ _ h => h) (Or.inl ⟨by rfl, ?_⟩) (by assumption) ?_
              rotate_left 1
              · (intro w hSw; (try dsimp only at hSw); go_simp; try with_reducible rfl)
              try simp only [Act.put, List.setIfInBounds_toArray, List.set_cons_zero, List.set_cons_succ, List.getElem_toArray, List.getElem_cons_succ, List.getElem_cons_zero]
              refine anyZ_take (i := 4) (v := ?_) rfl (by kernel_rfl) (by kernel_rfl) (by kernel_rfl) (by kernel_rfl) (fun _ _ _ h => h) (Or.inl ⟨by rfl, ?_⟩) (by assumption) ?_
              rotate_left 1
              · (intro w hSw; (try dsimp only at hSw); go_simp; try with_reducible rfl)
              try simp only [Act.put, List.setIfInBounds_toArray, List.set_cons_zero, List.set_cons_succ, List.getElem_toArray, List.getElem_cons_succ, List.getElem_cons_zero]
              refine anyZ_take (i := 5) (v := ?_) rfl (by kernel_rfl) (by kernel_rfl) (by kernel_rfl) (by kernel_rfl) (fun _ _ _ h => h) (Or.inl ⟨by rfl, ?_⟩) (by assumption) ?_
              rotate_left 1
              · (intro w hSw; (try dsimp only at hSw); go_simp; try with_reducible rfl)
              try simp only [Act.put, List.setIfInBounds_toArray, List.set_cons_zero, List.set_cons_succ, List.getElem_toArray, List.getElem_cons_succ, List.getElem_cons_zero]
              refine anyZ_take (i := 6) (v := ?_) rfl (by kernel_rfl) (by kernel_rfl) (by kernel_rfl) (by kernel_rfl) (fun _ _ _ h => h) (Or.inl ⟨by rfl, ?_⟩) (by assumption) ?_
              rotate_left 1
              · (intro w hSw; (try dsimp only at hSw); go_simp; try with_reducible rfl)
              try simp only [Act.put, List.setIfInBounds_toArray, List.set_cons_zero, List.set_cons_succ, List.getElem_toArray, List.getElem_cons_succ, List.getElem_cons_zero]
              refine anyZ_take (i := 7) (v := ?_) rfl (by kernel_rfl) (by kernel_rfl) (by kernel_rfl) (by kernel_rfl) (fun _ _ _ h => h) (Or.inl ⟨by rfl, ?_⟩) (by assumption) ?_
              rotate_left 1
              · (intro w hSw; (try dsimp only at hSw); go_simp; try with_reducible rfl)
              try simp only [Act.put, List.setIfInBounds_toArray, List.set_cons_zero, List.set_cons_succ, List.getElem_toArray, List.getElem_cons_succ, List.getElem_cons_zero]
              refine anyZ_take (i := 8) (v := ?_) rfl (by kernel_rfl) (by kernel_rfl) (by kernel_rfl) (by kernel_rfl) (fun _ _ _ h => h) (Or.inl ⟨by rfl, ?_⟩) (by assumption) ?_
              rotate_left 1
              · (intro w hSw; (try dsimp only at hSw); go_simp; try with_reducible rfl)
              try simp only [Act.put, List.setIfInBounds_toArray, List.set_cons_zero, List.set_cons_succ, List.getElem_toArray, List.getElem_cons_succ, List.getElem_cons_zero]
              refine anyZ_take (i := 9) (v := ?_) rfl (by kernel_rfl) (by kernel_rfl) (by kernel_rfl) (by kernel_rfl) (fun _ _ _ h => h) (Or.inl ⟨by rfl, ?_⟩) (by assumption) ?_
              rotate_left 1
              · (intro w hSw; (try dsimp only at hSw); go_simp; try with_reducible rfl)
              try simp only [Act.put, List.setIfInBounds_toArray, List.set_cons_zero, List.set_cons_succ, List.getElem_toArray, List.getElem_cons_succ, List.getElem_cons_zero]
              refine anyZ_one (i := 10) (by kernel_rfl) rfl (fun K hK => ?_)
              go_simp
              refine hK.out _ _ (fun h => absurd rfl h) (fun _ => ?_)
              clear hK K
              try simp only [Act.put, List.setIfInBounds_toArray, List.set_cons_zero, List.set_cons_succ, List.getElem_toArray, List.getElem_cons_succ, List.getElem_cons_zero]
              refine anyZ_done (by kernel_rfl) ?_ _
              have HK9 := Lib.hid HK8.out.drew
              have HS9 := Lib.hid (HS8.out.keepF ((Kp.refl (fun _ => False) _).drew))
              clear c0 c1 c2 c3 f0 f1 f2 f3 hlt b0 b1 hS hsl
              go_wp2
              go_roundg (60 - at1)
              case rel => exact ⟨at1, _, _, _, rfl, by have := HG.out; omega, by have := HG.out; omega, Lib.hid (by have := HG.out; have := HL.out; simp; omega), HS9, HF6, HK9, HE6⟩
              case measure => have := HG.out; omega
        case' neg =>
          have hd6 : deep = 6 := by omega
          have HE6 := Lib.hid (show pl s deep (k' + 1) log' = pl s deep k log by rw [← HE.out, pl_no s deep k' log' hkl e0 hdd])
          subst hd6
          rcases e0 with e0 | e0
          all_goals
            rw [e0]
            clear e0
            go_wp2
            go_roundg (60 - (k' + 1))
            case rel => exact ⟨k' + 1, log', lr', gr', rfl, by omega, by omega, HL1, HSf, HF, HKf, HE6⟩
            case measure => omega
      case' inr.inl =>
        have HE6 := Lib.hid (show ((0, deep), k' + 1, log') = pl s deep k log by rw [← HE.out, pl_6 s deep k' log' hkl e0])
        rw [e0]
        clear e0
        go_wp2
        go_end0
        refine ⟨⟨lr', gr', ?_, HF.out.1, HF.out.2⟩, HKf.out, .inl ⟨?_, rfl⟩⟩
        all_goals rw [← HE6.out]
        exact HSf.out
      case' inr.inr.inl =>
        have HPL := Lib.hid (pl_7 s deep k' log' hkl e0)
        rw [e0]
        clear e0
        have hr1 := HRn.out.1; have hr2 := HRn.out.2
        have hm0 := Int.emod_nonneg (s.n k') (show (18 : Int) ≠ 0 by decide)
        have hm1 := Int.emod_lt_of_pos (s.n k') (show (0 : Int) < 18 by decide)
        cases hok : s.ok k' with
        | true =>
          rw [hok] at x2
          have HE6 := Lib.hid (show pl s deep (k' + 1) log' = pl s deep k log by rw [← HE.out, HPL.out, hok]; rfl)
          clear hok HPL
          go_wp2_with fail
          go_quiet ((first | (go_at_call 7; exact Calls.quiet_of_same ((pick_any (s.n k') 18 _ (by decide) (by decide) hr1 hr2).mono fun e w' h => ⟨h.1, h.2.symm⟩)) | (go_at_call 16; exact Calls.quiet_of_same ((want_yes _ _ _).mono fun e w' h => ⟨h.1, h.2.symm⟩))))
          have HSn := Lib.hid (HSf.out.keepF ((Kp.refl (fun _ => False) w3).drewN nq))
          have HKn := Lib.hid (HKf.out.drewN nq)
          go_wp2
          go_roundg (60 - (k' + 1))
          case rel => exact ⟨k' + 1, log', lr', gr', rfl, by omega, by omega, HL1, HSn, HF, HKn, HE6⟩
          case measure => omega
        | false =>
          rw [hok] at x2
          have HE6 := Lib.hid (show ((1 + s.n k' % 18, deep), k' + 1, log') = pl s deep k log by rw [← HE.out, HPL.out, hok]; rfl)
          clear hok HPL
          go_wp2_with fail
          refine QuietTail.wp_region_drawn_tail 7 (by kernel_rfl) (by kernel_rfl) ?_
          simp only [List.take_succ_cons, List.take_zero, List.drop_succ_cons, List.drop_zero]
          repeat (go_big_quiet_step ((go_at_call 7; exact Calls.quiet_of_same ((pick_any (s.n k') 18 _ (by decide) (by decide) hr1 hr2).mono fun e w' h => ⟨h.1, h.2.symm⟩))))
          refine wpQuiet_nil ?_
          rintro _ ⟨nq, rfl⟩
          have HSn := Lib.hid (HSf.out.keepF ((Kp.refl (fun _ => False) w3).drewN nq))
          have HKn := Lib.hid (HKf.out.drewN nq)
          generalize w3.drewN nq = w4 at *
          have hgo : ∃ y, w4.heap[g]? = some (.cells #[.int .i64 y] 47 (0, 0)) := by
            obtain ⟨_, _, _, _, q⟩ := HSn.out
            exact (q g (by simp)).2
          obtain ⟨y, hy⟩ := hgo
          have HY := Lib.hid hy
          have HWN := Lib.hid (want_no g y (1 + s.n k' % 18) (by omega) w4 hy)
          clear hy
          go_wp2_with fail
          refine HWN.out.mono ?_
          rintro e w' ⟨rfl, rfl⟩
          refine ⟨rfl, ⟨lr', gr', ?_, HF.out.1, HF.out.2⟩, HKn.out.setCell ⟨g, 0, none⟩ (.inl (.inr (.inr (.inr (by simp))))) _, .inr ⟨[], g, ?_, rfl, (by simp), ?_⟩⟩
          all_goals rw [← HE6.out]
          · exact HSn.out.told g (by simp) _
          · exact HGg.out
          · exact set_one HY.out
      case' inr.inr.inr.inl =>
        have HPL := Lib.hid (pl_8 s deep k' log' hkl e0)
        rw [e0]
        clear e0
        have hr1 := HRn.out.1; have hr2 := HRn.out.2
        by_cases hz : s.n k' % 4 = 0
        · have HE6 := Lib.hid (show pl s deep (k' + 1) log' = pl s deep k log by rw [← HE.out, HPL.out, if_pos hz])
          go_wp2_with fail
          refine (pick_any (s.n k') 4 _ (by decide) (by decide) hr1 hr2).mono ?_
          rintro e w' ⟨rfl, rfl⟩
          rw [hz]
          go_wp2_with fail
          refine (check_ok _ _).mono ?_
          rintro e w' ⟨rfl, rfl⟩
          go_wp2
          go_roundg (60 - (k' + 1))
          case rel => exact ⟨k' + 1, log', lr', gr', rfl, by omega, by omega, HL1, HSf, HF, HKf, HE6⟩
          case measure => omega
        · have HE6 := Lib.hid (show ((s.n k' % 4, deep), k' + 1, log') = pl s deep k log by rw [← HE.out, HPL.out, if_neg hz])
          have hgo : ∃ y, w3.heap[g]? = some (.cells #[.int .i64 y] 47 (0, 0)) := by
            obtain ⟨_, _, _, _, q⟩ := HSf.out
            exact (q g (by simp)).2
          obtain ⟨y, hy⟩ := hgo
          have HY := Lib.hid hy
          have HWN := Lib.hid (check_no g y (s.n k' % 4) hz w3 hy)
          clear hy
          go_wp2_with fail
          refine (pick_any (s.n k') 4 _ (by decide) (by decide) hr1 hr2).mono ?_
          rintro e w' ⟨rfl, rfl⟩
          go_wp2_with fail
          refine HWN.out.mono ?_
          rintro e w' ⟨rfl, rfl⟩
          refine ⟨rfl, ⟨lr', gr', ?_, HF.out.1, HF.out.2⟩, HKf.out.setCell ⟨g, 0, none⟩ (.inl (.inr (.inr (.inr (by simp))))) _, .inr ⟨[], g, ?_, rfl, (by simp), ?_⟩⟩
          all_goals rw [← HE6.out]
          · exact HSf.out.told g (by simp) _
          · exact HGg.out
          · exact set_one HY.out
      case' inr.inr.inr.inr.inl =>
        have HPL := Lib.hid (pl_9 s deep k' log' hkl e0)
        rw [e0]
        clear e0
        have hr1 := HRn.out.1; have hr2 := HRn.out.2
        have ht1 : -9223372036854775808 ≤ (s.n k').tdiv 7 ∧ (s.n k').tdiv 7 ≤ 9223372036854775807 := by
          have h7 := Int.tdiv_eq_ediv (a := s.n k') (b := 7)
          have hsg : (7 : Int).sign = 1 := rfl
          rw [hsg] at h7
          split at h7 <;> omega
        have hm0 := Int.emod_nonneg ((s.n k').tdiv 7) (show (18 : Int) ≠ 0 by decide)
        have hm1 := Int.emod_lt_of_pos ((s.n k').tdiv 7) (show (0 : Int) < 18 by decide)
        have hn0 := Int.emod_nonneg (s.n k') (show (deep : Int) + 1 ≠ 0 by omega)
        have hn2 := Int.emod_lt_of_pos (s.n k') (show (0 : Int) < (deep : Int) + 1 by omega)
        obtain ⟨j, hj⟩ : ∃ j : Nat, s.n k' % ((deep : Int) + 1) = (j : Int) := ⟨(s.n k' % ((deep : Int) + 1)).toNat, by omega⟩
        have HE6 := Lib.hid (show ((1 + (s.n k').tdiv 7 % 18, j), k' + 1, log') = pl s deep k log by
          rw [← HE.out, HPL.out, hj]; rfl)
        have HPK : Hid (∀ w, Calls Try.prog 7 #[.int .i64 (s.n k'), .int .i64 ((deep : Int) + 1)] w fun e w' => e = .returned (.int .i64 (j : Int)) ∧ w = w') := fun w => by
          have := pick_any (s.n k') ((deep : Int) + 1) w (by omega) (by omega) hr1 hr2
          rw [hj] at this
          exact this
        have hjd : j < deep + 1 := by omega
        obtain ⟨gs, g1, g2, g3, g4⟩ := HSf.out
        obtain ⟨lv4, gv4, hh, hlr, hgr, hol, hog⟩ := g1.hp
        obtain ⟨⟨c0, c1, c2, c3⟩, ⟨f0, f1, f2, f3⟩, hlt⟩ := cell_five hh
        obtain ⟨ga, gc, rfl, hgc⟩ := owns_form hog
        have hdl : deep + 1 ≤ gs.length := by have h1 := congrArg List.length g2; simp at h1; have := HGL.out; simp at this; omega
        obtain ⟨bb, rfl, hbb⟩ := owns_at hog j (by omega)
        have hgj : ∃ gj, (G ++ [g])[j]? = some gj := ⟨_, List.getElem?_eq_getElem (by rw [HGL.out]; exact hjd)⟩
        obtain ⟨gj, hgj⟩ := hgj
        have hmem : gj ∈ G ++ [g] := List.mem_of_getElem? hgj
        have hbb2 : w3.cell? ⟨bb, 0 + j, none⟩ = some (.pointer (some ⟨gj, 0, none⟩)) := by
          have h1 : gs[j]? = some gj := by
            have h2 : (gs.take (deep + 1))[j]? = some gj := by rw [g2]; exact hgj
            rw [List.getElem?_take, if_pos hjd] at h2
            exact h2
          rw [hbb, List.getElem?_map, h1]
          rfl
        rw [Nat.zero_add] at hbb2
        obtain ⟨_, y, hy⟩ := g4 gj hmem
        have HY := Lib.hid hy; have HGJ := Lib.hid (And.intro hgj hmem)
        have hjl : (j : Int) < (gs.length : Int) := by omega
        have hjl2 : j < gs.length := by omega
        have hdd : (deep : Int) ≤ 6 := by omega
        clear hh hlr hgr hol hog g1 g2 g3 g4 hbb hgj hmem hy hj hn0 hn2 HPL
        go_wp2_with fail
        refine QuietTail.wp_region_drawn_tail 16 (by kernel_rfl) (by kernel_rfl) ?_
        simp only [List.take_succ_cons, List.take_zero, List.drop_succ_cons, List.drop_zero]
        repeat (go_big_quiet_step ((go_at_call_of 7 (Value.int .i64 (s.n k')); exact Calls.quiet_of_same ((HPK.out _).mono fun e w' h => ⟨h.1, h.2.symm⟩))))
        repeat (go_big_quiet_step ((go_at_call 7; exact Calls.quiet_of_same ((pick_any ((s.n k').tdiv 7) 18 _ (by decide) (by decide) ht1.1 ht1.2).mono fun e w' h => ⟨h.1, h.2.symm⟩))))
        refine wpQuiet_nil ?_
        rintro _ ⟨nq, rfl⟩
        have HSn := Lib.hid (HSf.out.keepF ((Kp.refl (fun _ => False) w3).drewN nq))
        have HKn := Lib.hid (HKf.out.drewN nq)
        have HYn : Hid ((w3.drewN nq).heap[gj]? = some (.cells #[.int .i64 y] 47 (0, 0))) := HY.out
        generalize w3.drewN nq = w4 at *
        have HWN := Lib.hid (fail_no gj y (1 + (s.n k').tdiv 7 % 18) (by omega) w4 HYn.out)
        go_wp2_with fail
        refine HWN.out.mono ?_
        rintro e w' ⟨rfl, rfl⟩
        refine ⟨rfl, ⟨lr', gr', ?_, HF.out.1, HF.out.2⟩, HKn.out.setCell ⟨gj, 0, none⟩ (.inl (.inr (.inr (.inr HGJ.out.2)))) _, .inr ⟨[], gj, ?_, rfl, (by simp), ?_⟩⟩
        all_goals rw [← HE6.out]
        · exact HSn.out.told gj HGJ.out.2 _
        · exact HGJ.out.1
        · exact set_one HYn.out
      case' inr.inr.inr.inr.inr =>
        have HE6 := Lib.hid (show pl s deep (k' + 1) (log' ++ [s.n k' % 100]) = pl s deep k log by rw [← HE.out, pl_log s deep k' log' hkl e0])
        have hr1 := HRn.out.1; have hr2 := HRn.out.2
        have hrw : ∀ b, lr' = some b → Own p lr gr (G ++ [g]) b ∨ w.heap.size ≤ b := fun b hb => by
          rcases HF.out.1 with e | ⟨n, e, hn⟩
          · exact .inl (.inr (.inl (by rw [← e]; exact hb)))
          · rw [e] at hb; cases hb; exact .inr hn
        have HRW := Lib.hid hrw
        obtain ⟨gs, g1, g2, g3, g4⟩ := HSf.out
        obtain ⟨lv4, gv4, hh, hlr, hgr, hol, hog⟩ := g1.hp
        obtain ⟨⟨c0, c1, c2, c3⟩, ⟨f0, f1, f2, f3⟩, hlt⟩ := cell_five hh
        obtain ⟨la4, lc4, rfl, _⟩ := owns_form hol
        obtain ⟨ril, IL⟩ := rowInt
        have HO5 := Lib.hid (owns_keep hol (((Kp.refl (fun _ => False) w3).drew).alloc (.cells #[.int .i64 (s.n k' % 100)] 3)) (fun _ _ => id))
        have HU5 := Lib.hid ((cell_one (hp_new w3.drew (.cells #[.int .i64 (s.n k' % 100)] 3))).1)
        have HS5 := Lib.hid (HSf.out.keepF (((Kp.refl (fun _ => False) w3).drew).alloc (.cells #[.int .i64 (s.n k' % 100)] 3)))
        have HK5 := Lib.hid ((HKf.out.drew).alloc (.cells #[.int .i64 (s.n k' % 100)] 3))
        have HH5 := Lib.hid (hp_old (show w3.drew.heap[p]? = some (.cells #[.slice (some ⟨b, off, none⟩) s.ll lc, .int .i64 ((k' + 1 : Nat) : Int), .slice la4 log'.length lc4, gv4, .int .i64 0] 39 (0, 0)) from hh) (.cells #[.int .i64 (s.n k' % 100)] 3))
        have HX5 := Lib.hid (hp_old (show w3.drew.heap[x]? = some (.cells #[.int .i64 (s.what k'), .int .i64 (s.n k'), .bool (s.ok k')] 51 (0, 0)) from HXf.out) (.cells #[.int .i64 (s.n k' % 100)] 3))
        have HLR := Lib.hid hlr
        have HPR := Lib.hid g1.row.1
        have hn1 : log'.length + 1 ≤ 1000000 := by have := HL1.out; omega
        have hsz : w3.drew.heap.size = w3.heap.size := rfl
        generalize s.what k' % 10 = cc at *
        have y4 : (cc == 4) = false := by simp; omega
        have y5 : (cc == 5) = false := by simp; omega
        have y6 : (cc == 6) = false := by simp; omega
        have y7 : (cc == 7) = false := by simp; omega
        have y8 : (cc == 8) = false := by simp; omega
        have y9 : (cc == 9) = false := by simp; omega
        clear hh hlr hgr hol hog g1 g2 g3 g4 hrw e0
        go_wp2_with fail
        refine region_z 12 (fun w' => w'.cell? ⟨bp, 0, none⟩ = some (.pointer (some ⟨p, 0, none⟩)) ∧ w'.cell? ⟨p, 2, none⟩ = some (.slice la4 log'.length lc4) ∧ w'.cell? ⟨x, 1, none⟩ = some (.int .i64 (s.n k'))) (by kernel_rfl) ⟨b0, c2, x1⟩ (fun hS => ?_)
        refine anyZ_take (i := 0) (v := ?_) rfl (by kernel_rfl) (by kernel_rfl) (by kernel_rfl) (by kernel_rfl) (fun _ _ _ h => h) (Or.inl ⟨by rfl, ?_⟩) (by assumption) ?_
        rotate_left 1
        · (intro w hSw; (try dsimp only at hSw); go_simp; try with_reducible rfl)
        try simp only [Act.put, List.setIfInBounds_toArray, List.set_cons_zero, List.set_cons_succ, List.getElem_toArray, List.getElem_cons_zero]
        refine anyZ_take (i := 1) (v := ?_) rfl (by kernel_rfl) (by kernel_rfl) (by kernel_rfl) (by kernel_rfl) (fun _ _ _ h => h) (Or.inl ⟨by rfl, ?_⟩) (by assumption) ?_
        rotate_left 1
        · (intro w hSw; (try dsimp only at hSw); go_simp; try with_reducible rfl)
        try simp only [Act.put, List.setIfInBounds_toArray, List.set_cons_zero, List.set_cons_succ, List.getElem_toArray, List.getElem_cons_succ, List.getElem_cons_zero]
        refine anyZ_take (i := 2) (v := ?_) rfl (by kernel_rfl) (by kernel_rfl) (by kernel_rfl) (by kernel_rfl) (fun _ _ _ h => h) (Or.inl ⟨by rfl, ?_⟩) (by assumption) ?_
        rotate_left 1
        · (intro w hSw; (try dsimp only at hSw); go_simp; try with_reducible rfl)
        try simp only [Act.put, List.setIfInBounds_toArray, List.set_cons_zero, List.set_cons_succ, List.getElem_toArray, List.getElem_cons_succ, List.getElem_cons_zero]
        refine anyZ_take (i := 3) (v := ?_) rfl (by kernel_rfl) (by kernel_rfl) (by kernel_rfl) (by kernel_rfl) (fun _ _ _ h => h) (Or.inl ⟨by rfl, ?_⟩) (by assumption) ?_
        rotate_left 1
        · (intro w hSw; (try dsimp only at hSw); go_simp; try with_reducible rfl)
        try simp only [Act.put, List.setIfInBounds_toArray, List.set_cons_zero, List.set_cons_succ, List.getElem_toArray, List.getElem_cons_succ, List.getElem_cons_zero]
        refine anyZ_take (i := 4) (v := ?_) rfl (by kernel_rfl) (by kernel_rfl) (by kernel_rfl) (by kernel_rfl) (fun _ _ _ h => h) (Or.inl ⟨by rfl, ?_⟩) (by assumption) ?_
        rotate_left 1
        · (intro w hSw; (try dsimp only at hSw); go_simp; try with_reducible rfl)
        try simp only [Act.put, List.setIfInBounds_toArray, List.set_cons_zero, List.set_cons_succ, List.getElem_toArray, List.getElem_cons_succ, List.getElem_cons_zero]
        refine anyZ_take (i := 5) (v := ?_) rfl (by kernel_rfl) (by kernel_rfl) (by kernel_rfl) (by kernel_rfl) (fun _ _ _ h => h) (Or.inl ⟨by rfl, ?_⟩) (by assumption) ?_
        rotate_left 1
        · (intro w hSw; (try dsimp only at hSw); go_simp; try with_reducible rfl)
        try simp only [Act.put, List.setIfInBounds_toArray, List.set_cons_zero, List.set_cons_succ, List.getElem_toArray, List.getElem_cons_succ, List.getElem_cons_zero]
        refine anyZ_take (i := 6) (v := ?_) rfl (by kernel_rfl) (by kernel_rfl) (by kernel_rfl) (by kernel_rfl) (fun _ _ _ h => h) (Or.inl ⟨by rfl, ?_⟩) (by assumption) ?_
        rotate_left 1
        · (intro w hSw; (try dsimp only at hSw); go_simp; try with_reducible rfl)
        try simp only [Act.put, List.setIfInBounds_toArray, List.set_cons_zero, List.set_cons_succ, List.getElem_toArray, List.getElem_cons_succ, List.getElem_cons_zero]
        refine anyZ_one (i := 7) (by kernel_rfl) rfl (fun K hK => ?_)
        go_simp
        refine (pick_any (s.n k') 100 _ (by decide) (by decide) hr1 hr2).mono ?_
        rintro e w' ⟨rfl, rfl⟩
        try go_wp2_with fail
        refine hK.out _ _ (fun _ => ?_) (fun hSS => ?_)
        · (first | exact ⟨e0, q2, v1⟩ | go_keep)
        have hS := hSS (by decide)
        clear hSS hK K
        try simp only [Act.put, List.setIfInBounds_toArray, List.set_cons_zero, List.set_cons_succ, List.getElem_toArray, List.getElem_cons_succ, List.getElem_cons_zero]
        refine anyZ_one (i := 8) (by kernel_rfl) rfl (fun K hK => ?_)
        go_simp
        refine hK.out _ _ (fun _ => ?_) (fun hSS => ?_)
        · (first | exact ⟨e0, q2, v1⟩ | go_keep)
        have hS := hSS (by decide)
        clear hSS hK K
        try simp only [Act.put, List.setIfInBounds_toArray, List.set_cons_zero, List.set_cons_succ, List.getElem_toArray, List.getElem_cons_succ, List.getElem_cons_zero]
        refine anyZ_one (i := 9) (by kernel_rfl) rfl (fun K hK => ?_)
        refine step_append_one rfl IL (p + 1) (.tmp 59) (.tmp 63) rfl (.slice la4 log'.length lc4) log'.length _ rfl HO5.out (by simp; omega) w3.heap.size 1 (.int .i64 (s.n k' % 100)) rfl HU5.out rfl hn1 (by decide) ?_
        intro v' w5 hown' hgr' hfr'
        obtain ⟨a', c', rfl, _⟩ := owns_form hown'
        have HOW := Lib.hid hown'; have HGW := Lib.hid hgr'; have HFR := Lib.hid hfr'
        have HK6 := Lib.hid (HK5.out.grown HGW.out (fun b hb => HRW.out b (HLR.out.symm.trans hb)))
        obtain ⟨e0, e1'⟩ := HBX.out w5 HK6.out
        have HH6 : Hid (w5.heap[p]? = some (.cells #[.slice (some ⟨b, off, none⟩) s.ll lc, .int .i64 ((k' + 1 : Nat) : Int), .slice la4 log'.length lc4, gv4, .int .i64 0] 39 (0, 0))) := by
          show _ = _
          rw [hgr'.block p (by simp; omega) (fun e => by have := (HPR.out p (HLR.out.symm.trans e.symm)).1; omega)]
          exact HH5.out
        obtain ⟨⟨q0, q1, q2, q3⟩, ⟨n0, n1, n2, n3⟩, hlt6⟩ := cell_five HH6.out
        have HX6 : Hid (w5.heap[x]? = some (.cells #[.int .i64 (s.what k'), .int .i64 (s.n k'), .bool (s.ok k')] 51 (0, 0))) := by
          show _ = _
          rw [hgr'.block x (hp_lt HX5.out) (fun e => HX0.out.1 x (.inr (.inl (HLR.out.symm.trans e.symm))) rfl)]
          exact HX5.out
        obtain ⟨v0, v1, v2⟩ := cell_three HX6.out
        clear hown' hgr' hfr'
        refine hK.out _ _ (fun _ => ?_) (fun hSS => ?_)
        · (first | exact ⟨e0, q2, v1⟩ | go_keep)
        have hS := hSS (by decide)
        clear hSS hK K
        try simp only [Act.put, List.setIfInBounds_toArray, List.set_cons_zero, List.set_cons_succ, List.getElem_toArray, List.getElem_cons_succ, List.getElem_cons_zero]
        refine anyZ_take (i := 10) (v := ?_) rfl (by kernel_rfl) (by kernel_rfl) (by kernel_rfl) (by kernel_rfl) (fun _ _ _ h => h) (Or.inl ⟨by rfl, ?_⟩) (by assumption) ?_
        rotate_left 1
        · (intro w hSw; (try dsimp only at hSw); go_simp; try with_reducible rfl)
        try simp only [Act.put, List.setIfInBounds_toArray, List.set_cons_zero, List.set_cons_succ, List.getElem_toArray, List.getElem_cons_succ, List.getElem_cons_zero]
        refine anyZ_take (i := 11) (v := ?_) rfl (by kernel_rfl) (by kernel_rfl) (by kernel_rfl) (by kernel_rfl) (fun _ _ _ h => h) (Or.inl ⟨by rfl, ?_⟩) (by assumption) ?_
        rotate_left 1
        · (intro w hSw; (try dsimp only at hSw); go_simp; try with_reducible rfl)
        try simp only [Act.put, List.setIfInBounds_toArray, List.set_cons_zero, List.set_cons_succ, List.getElem_toArray, List.getElem_cons_succ, List.getElem_cons_zero]
        refine anyZ_one (i := 12) (by kernel_rfl) rfl (fun K hK => ?_)
        go_simp
        refine hK.out _ _ (fun h => absurd rfl h) (fun _ => ?_)
        clear hK K
        try simp only [Act.put, List.setIfInBounds_toArray, List.set_cons_zero, List.set_cons_succ, List.getElem_toArray, List.getElem_cons_succ, List.getElem_cons_zero]
        refine anyZ_done (by kernel_rfl) ?_ _
        have HS6 := Lib.hid (HS5.out.logged HOW.out (by rw [← HLR.out]; exact HGW.out) (by rw [← HLR.out]; exact HFR.out))
        have HF6 := Lib.hid (And.intro (HF.out.1.trans (by rw [← HLR.out]; exact HFR.out) HK5.out.size) HF.out.2)
        have HK7 := Lib.hid (HK6.out.setCell ⟨p, 2, none⟩ (.inl (.inl rfl)) (.slice a' (log'.length + 1) c'))
        clear HOW HGW HFR HK6 HH6 q0 q1 q2 q3 n0 n1 n2 n3 hlt6 e0 e1' c0 c1 c2 c3 f0 f1 f2 f3 hlt b0 b1 HO5 HU5 HS5 HK5 HH5 HLR HPR hn1 hsz hS HRW HX5 HX6 v0 v1 v2
        go_wp2
        go_roundg (60 - (k' + 1))
        case rel => exact ⟨k' + 1, _, _, _, rfl, by omega, by omega, Lib.hid (by have := HL.out; simp; omega), HS6, HF6, HK7, HE6⟩
        case measure => omega
    · have HE6 := Lib.hid (show ((0, deep), k', log') = pl s deep k log by rw [← HE.out, pl_end s deep k' log' hkl])
      by_cases hk3 : k' < s.ll
      case' pos =>
        have h1 : (k' : Int) < (s.ll : Int) := by omega
        have h2 : ¬ (k' : Int) < 60 := by omega
        have h2' : decide ((k' : Int) < 60) = false := by simp; omega
        go_wp2_with fail
        go_quiet (fail)
      case' neg =>
        have h1 : ¬ (k' : Int) < (s.ll : Int) := by omega
        have h1' : decide ((k' : Int) < (s.ll : Int)) = false := by simp; omega
        go_wp2_with fail
        go_quiet (fail)
      all_goals
        go_wp2
        go_end0
        refine ⟨⟨lr', gr', ?_, HF.out.1, HF.out.2⟩, HK.out.drewN nq, .inl ⟨?_, rfl⟩⟩
        all_goals rw [← HE6.out]
        exact HSt.out.keepF ((Kp.refl (fun _ => False) wr).drewN nq)
end Go.Proofs.Ytbjndmmelngbdaa
