/- The contract of the document's Put. Conditions: as the theorem names them. -/
import Derived.Test.YtgpidbdgodgefaaDoorTreeS
namespace Go.Proofs.YtgpidbdgodgefaaDoor
open Go.RowKit Go.Deep

theorem OwnT.asTree {w : World} {base : Nat} {v : Value} {L : List ItemP} {R : List ItemV} (h : OwnT w base v L) (e : L.map (·.x) = R) : ∃ a c, v = .slice a R.length c ∧ TreeAt w a R ∧ v.ownBlock = blk a := by
  subst e
  obtain ⟨a, c, hv, hb, _⟩ := h.form
  exact ⟨a, c, by rw [hv, List.length_map], h.tree hv, hb⟩
/-- A tree that the call has made, and an error. -/
def PutEnd (w : World) (R : List ItemV × Int) (e : Ending) (w' : World) : Prop :=
  ∃ v L, e = .returned (.tuple #[v, .int .i64 R.2]) ∧ L.map (·.x) = R.1 ∧ OwnT w' w.heap.size v L ∧ Kp (fun _ => False) w w'

set_option maxHeartbeats 8000000 in
set_option maxRecDepth 100000 in
theorem refPut_any (a : Option Addr) (c : Nat) (l : List ItemV) (s : List UInt8) (n : NodeV) (na : Option Addr) (nc : Nat) (w : World) (h : TreeAt w a l) (hl : l.length ≤ 1000) (hpl : ∀ x ∈ l, x.path.length ≤ 1000) (hs : s.length ≤ 1000) (hn : NAt w n na nc) :
    Calls Tryd.prog 45 #[.slice a l.length c, .string ⟨s.toArray⟩, nodeVal n na nc] w (PutEnd w (putL l s n)) := by
  have hb0 := hp_new w (.cells #[.int .i64 n.kind, .int .i64 n.mode, .float .f64 n.time, .slice na n.bs.length nc] 42)
  have hk0 : Kp (fun _ => False) w (w.alloc (.cells #[.int .i64 n.kind, .int .i64 n.mode, .float .f64 n.time, .slice na n.bs.length nc] 42)) := (Kp.refl _ w).alloc _
  have HT := Lib.hid (h.keep hk0)
  have HB0 := Lib.hid hb0
  have HK0 := Lib.hid hk0
  have HN0 := Lib.hid (hn.keepF hk0)
  have HPL := Lib.hid hpl
  have HR := Lib.hid (show putL l s n = (if s = [] ∨ isPathB s = false ∨ rightN n = false then ([], 1) else if dirL l (dirB s) = false then ([], 9) else if 120 < (setL (n.item s) false (if n.kind = 2 then l else cutL l s)).length then ([], 16) else (setL (n.item s) false (if n.kind = 2 then l else cutL l s), 0)) from rfl)
  clear h hn hb0 hk0 hpl
  rw [nodeVal]
  cases he : s.isEmpty with
  | true =>
    have hs0 : s = [] := List.isEmpty_iff.1 he
    have HR1 := Lib.hid (show putL l s n = ([], 1) from by rw [HR.out, if_pos (.inl hs0)])
    clear HR
    go_enter Tryd.func45, Tryd.ntmps45
    go_wp2
    go_ret2
    rw [HR1.out]
    exact ⟨_, [], rfl, rfl, OwnT.nil _ _, HK0.out⟩
  | false =>
    have hs0 : s ≠ [] := fun e => by subst e; cases he
    go_enter Tryd.func45, Tryd.ntmps45
    go_wp2_with fail
    generalize w.alloc (.cells #[.int .i64 n.kind, .int .i64 n.mode, .float .f64 n.time, .slice na n.bs.length nc] 42) = w0 at *
    refine (refIsPath_any s w0 (by omega)).mono ?_
    rintro e w1 ⟨rfl, hk1⟩
    have HK1 := Lib.hid (HK0.out.trans hk1)
    have HT1 := Lib.hid (HT.out.keep hk1)
    have HB1 := Lib.hid (hk1.hp HB0.out id)
    have HN1 := Lib.hid (HN0.out.keepF hk1)
    clear hk1 HK0 HT HB0 HN0
    obtain ⟨b0, b1, b2, b3⟩ := cell_four HB1.out
    cases hpp : isPathB s with
    | false =>
      have HR1 := Lib.hid (show putL l s n = ([], 1) from by rw [HR.out, if_pos (.inr (.inl hpp))])
      clear HR
      go_wp2
      go_ret2
      rw [HR1.out]
      exact ⟨_, [], rfl, rfl, OwnT.nil _ _, HK1.out⟩
    | true =>
      have hRR := refRight_any n na nc w1 HN1.out
      rw [nodeVal] at hRR
      have HRR := Lib.hid hRR
      clear hRR
      go_wp2_with fail
      refine HRR.out.mono ?_
      rintro e w2 ⟨rfl, hk2⟩
      have HK2 := Lib.hid (HK1.out.trans hk2)
      have HT2 := Lib.hid (HT1.out.keep hk2)
      have HB2 := Lib.hid (hk2.hp HB1.out id)
      have HN2 := Lib.hid (HN1.out.keepF hk2)
      clear hk2 HK1 HT1 HB1 HN1 HRR
      obtain ⟨b0, b1, b2, b3⟩ := cell_four HB2.out
      cases hrn : rightN n with
      | false =>
        have HR1 := Lib.hid (show putL l s n = ([], 1) from by rw [HR.out, if_pos (.inr (.inr hrn))])
        clear HR
        go_wp2
        go_ret2
        rw [HR1.out]
        exact ⟨_, [], rfl, rfl, OwnT.nil _ _, HK2.out⟩
      | true =>
        have HR1 := Lib.hid (show putL l s n = (if dirL l (dirB s) = false then ([], 9) else if 120 < (setL (n.item s) false (if n.kind = 2 then l else cutL l s)).length then ([], 16) else (setL (n.item s) false (if n.kind = 2 then l else cutL l s), 0)) from by rw [HR.out, if_neg (by rw [hpp, hrn]; simpa using hs0)])
        clear HR
        go_wp2_with fail
        refine (refDir_any s w2 (by omega)).mono ?_
        rintro e w' ⟨rfl, rfl⟩
        go_wp2_with fail
        refine (refIsDir_any a c l (dirB s) w2 HT2.out (by omega)).mono ?_
        rintro e w3 ⟨rfl, hk3⟩
        have HK3 := Lib.hid (HK2.out.trans hk3)
        have HT3 := Lib.hid (HT2.out.keep hk3)
        have HB3 := Lib.hid (hk3.hp HB2.out id)
        have HN3 := Lib.hid (HN2.out.keepF hk3)
        clear hk3 HK2 HT2 HB2 HN2
        obtain ⟨b0, b1, b2, b3⟩ := cell_four HB3.out
        cases hd : dirL l (dirB s) with
        | false =>
          have HR2 := Lib.hid (show putL l s n = ([], 9) from by rw [HR1.out, if_pos hd])
          clear HR1
          go_wp2
          go_ret2
          rw [HR2.out]
          exact ⟨_, [], rfl, rfl, OwnT.nil _ _, HK3.out⟩
        | true =>
          have HR2 := Lib.hid (show putL l s n = (if 120 < (setL (n.item s) false (if n.kind = 2 then l else cutL l s)).length then ([], 16) else (setL (n.item s) false (if n.kind = 2 then l else cutL l s), 0)) from by rw [HR1.out, if_neg (by rw [hd]; decide)])
          clear HR1
          by_cases hk : n.kind = 2
          case' pos =>
            have hbr : (n.kind == 2) = true := by simp [hk]
            rw [if_pos hk] at HR2
            obtain ⟨a4, c4, l4, w4, ha4, hl4, HT4, HB4, HN4, HK4, HR4⟩ : ∃ (a4 : Option Addr) (c4 : Nat) (l4 : List ItemV) (w4 : World), (a4 = a ∧ c4 = c ∧ w4 = w3 ∧ l4 = l) ∧ l4.length ≤ 1000 ∧ Hid (TreeAt w4 a4 l4) ∧ Hid (w4.heap[w.heap.size]? = some (.cells #[.int .i64 n.kind, .int .i64 n.mode, .float .f64 n.time, .slice na n.bs.length nc] 42 (0, 0))) ∧ Hid (NAt w4 n na nc) ∧ Hid (Kp (fun _ => False) w w4) ∧ Hid (putL l s n = if 120 < (setL (n.item s) false l4).length then ([], 16) else (setL (n.item s) false l4, 0)) := ⟨a, c, l, w3, ⟨rfl, rfl, rfl, rfl⟩, hl, HT3, HB3, HN3, HK3, HR2⟩
            obtain ⟨rfl, rfl, rfl, rfl⟩ := ha4
            clear HT3 HB3 HN3 HK3 HR2
            go_wp2_with fail
          case' neg =>
            have hbr : (n.kind == 2) = false := by simp [hk]
            rw [if_neg hk] at HR2
            go_wp2_with fail
            refine (refCut_any a c l s w3 HT3.out hl HPL.out hs).mono ?_
            rintro e w4 ⟨v4, L4, rfl, hm4, ho4, hk4⟩
            obtain ⟨a4, c4, rfl, ht4, _⟩ := ho4.asTree hm4
            have HT4 := Lib.hid ht4
            have hl4 : (cutL l s).length ≤ 1000 := Nat.le_trans (List.length_filter_le _ _) hl
            have HB4 := Lib.hid (hk4.hp HB3.out id)
            have HN4 := Lib.hid (HN3.out.keepF hk4)
            have HK4 := Lib.hid (HK3.out.trans hk4)
            have HR4 := HR2
            clear HT3 HB3 HN3 HK3 HR2 hm4 ho4 hk4 ht4
            generalize cutL l s = l4 at *
            obtain ⟨b0, b1, b2, b3⟩ := cell_four HB4.out
            go_wp2_with fail
          all_goals
            have hST := refSet_any a4 c4 l4 s n na nc w4 HT4.out hl4 HN4.out
            rw [nodeVal] at hST
            try rw [hk] at hST
            refine hST.mono ?_
            rintro e w5 ⟨v5, L5, rfl, hm5, ho5, hk5⟩
            have HO5 := Lib.hid ho5
            obtain ⟨a5, c5, hv5, _, _⟩ := ho5.asTree hm5
            have HM5 := Lib.hid hm5
            have HK5 := Lib.hid (HK4.out.trans hk5)
            have HSZ := Lib.hid HK4.out.size
            subst hv5
            clear ho5 hk5 hm5 hST HT4 HB4 HN4 HK4 b0 b1 b2 b3
            generalize setL (n.item s) false l4 = R5 at *
            by_cases hbig : 120 < R5.length
            · have HR5 := Lib.hid (HR4.out.trans (if_pos hbig))
              clear HR4
              go_wp2
              go_ret2
              rw [HR5.out]
              exact ⟨_, [], rfl, rfl, OwnT.nil _ _, HK5.out⟩
            · have HR5 := Lib.hid (HR4.out.trans (if_neg hbig))
              clear HR4
              go_wp2
              go_ret2
              rw [HR5.out]
              exact ⟨_, L5, rfl, HM5.out, HO5.out.from_ HSZ.out, HK5.out⟩
end Go.Proofs.YtgpidbdgodgefaaDoor
