/- The contracts of the document's cut, Split, IsPath. Conditions: as the theorems name them. -/
import Derived.Test.YtgpidbdgodgefaaDoorTells1
namespace Go.Proofs.YtgpidbdgodgefaaDoor
open Go.RowKit

theorem cutB_some (l : List UInt8) : ∃ d x, cutB l = d ++ [x] := by
  have h := cutB_len l
  rcases List.eq_nil_or_concat (cutB l) with h0 | ⟨d, x, h1⟩
  · rw [h0] at h; simp at h
  · exact ⟨d, x, by rw [h1]; simp⟩
theorem cut_snoc (c : UInt8) (hc : c ≠ 47) : ∀ (l : List UInt8) (d : List (List UInt8)) (x : List UInt8), cutB l = d ++ [x] → cutB (l ++ [c]) = d ++ [x ++ [c]]
  | [], d, x, h => by
    have h1 : d = [] := by
      cases d with
      | nil => rfl
      | cons a t =>
        have := congrArg List.length h
        simp [cutB] at this
    subst h1
    have h2 : x = [] := by
      have := h
      simp only [cutB, List.nil_append, List.cons.injEq, and_true] at this
      exact this.symm
    subst h2
    show cutB [c] = [[c]]
    rw [cutB, if_neg hc]
    rfl
  | b :: l, d, x, h => by
    obtain ⟨d', x', h'⟩ := cutB_some l
    have ih := cut_snoc c hc l d' x' h'
    show cutB (b :: (l ++ [c])) = _
    by_cases hb : b = 47
    · rw [cutB, if_pos hb] at h ⊢
      rw [h'] at h
      rw [ih]
      have e : ([] :: d') ++ [x'] = d ++ [x] := h
      obtain ⟨e1, e2⟩ := List.append_inj' e rfl
      subst e1
      obtain rfl : x' = x := by simpa using e2
      rfl
    · rw [cutB, if_neg hb] at h ⊢
      rw [h'] at h
      rw [ih]
      cases d' with
      | nil =>
        have e : [] ++ [b :: x'] = d ++ [x] := h
        obtain ⟨e1, e2⟩ := List.append_inj' e rfl
        subst e1
        obtain rfl : b :: x' = x := by simpa using e2
        rfl
      | cons a t =>
        have e : ((b :: a) :: t) ++ [x'] = d ++ [x] := h
        obtain ⟨e1, e2⟩ := List.append_inj' e rfl
        subst e1
        obtain rfl : x' = x := by simpa using e2
        rfl
theorem cut_slash (l : List UInt8) : cutB (l ++ [47]) = cutB l ++ [[]] := cut_app l []
theorem bytes_one (s : List UInt8) (k : Nat) (h : k < s.length) : (⟨s.toArray⟩ : ByteArray).extract k (k + 1) = ⟨[s[k]].toArray⟩ := by
  refine ByteArray.ext ?_
  have : (s.drop k).take 1 = [s[k]] := by
    rw [← List.getElem_cons_drop h]
    rfl
  simp [ByteArray.data_extract, this]

/-- What cut comes to. -/
def CutEnd (w : World) (s : List UInt8) (e : Ending) (w' : World) : Prop :=
  ∃ v, e = .returned v ∧ w'.ownsRow w.heap.size 9 1 v (cutB s).length ((cutB s).map strV) ∧ Kp (fun _ => False) w w'

set_option maxHeartbeats 2000000 in
set_option maxRecDepth 100000 in
theorem cut_any (s : List UInt8) (w : World) (h : s.length ≤ 8000000) :
    Calls Tryd.prog 58 #[.string ⟨s.toArray⟩] w (CutEnd w s) := by
  obtain ⟨ix, hiz0, hiz1, hiz2, hiz3⟩ := info_parts infoStr
  go_enter Tryd.func58, Tryd.ntmps58
  go_wp2_with fail
  go_loopw [3, 4, 5] (fun v t i wr => ∃ (k : Nat) (d : List (List UInt8)) (x : List UInt8), i = .int .i64 k ∧ t = .string ⟨x.toArray⟩ ∧ k ≤ s.length ∧ Hid (cutB (s.take k) = d ++ [x]) ∧ d.length ≤ k ∧ x.length ≤ k ∧ Hid (wr.ownsRow w.heap.size 9 1 v d.length (d.map strV)) ∧ Hid (Kp (fun _ => False) w wr)) (fun _ _ i _ => s.length - (intOf i).toNat)
  case atStart => exact ⟨0, [], [], rfl, rfl, Nat.zero_le _, Lib.hid rfl, Nat.le_refl _, Nat.le_refl _, Lib.hid (World.ownsRow_nil _ _ _ _), Lib.hid (Kp.refl _ _)⟩
  case round =>
    obtain ⟨k, d, x, rfl, rfl, hk, HC, hd, hx, HO, HK⟩ := hrel
    have HSZ := Lib.hid HK.out.size
    by_cases hlt : k < s.length
    · have hb := byte_at s k hlt
      have htk : s.take (k + 1) = s.take k ++ [s[k]] := List.take_succ_eq_append_getElem hlt
      have HTK := Lib.hid htk
      have hone := bytes_one s k hlt
      clear htk
      generalize s[k] = c at *
      by_cases h47 : c = 47
      · subst h47
        have HC2 : Hid (cutB (s.take (k + 1)) = (d ++ [x]) ++ [[]]) := by show _ = _; rw [HTK.out, cut_slash, HC.out]
        have HOX := Lib.hid (HO.out.alloc (.cells #[.string ⟨x.toArray⟩] 9))
        have HKX := Lib.hid (HK.out.alloc (.cells #[.string ⟨x.toArray⟩] 9))
        have HNEW := Lib.hid (hp_new wr (.cells #[.string ⟨x.toArray⟩] 9))
        have hbase : w.heap.size ≤ (wr.alloc (.cells #[.string ⟨x.toArray⟩] 9)).heap.size := by simp; have := HSZ.out; omega
        clear HC HTK hone
        go_wp2_with (at_builtin; refine wpList_append_own _ rfl (.tmp 16) (.tmp 18) 28 rfl w.heap.size 9 ix (.string ByteArray.empty) 1 16 Tryd.underlying28 hiz0 hiz1 hiz2 hiz3 rfl (by decide) _ d.length (d.map strV) rfl HOX.out ⟨wr.heap.size, 0, none⟩ 1 1 [strV x] rfl rfl (fun j u hj => ?_) (fun u hu => ?_) ?_ ?_ hbase ?_)
        · cases j with
          | zero =>
            have hu : strV x = u := by simpa using hj
            subst hu
            exact (cell_one HNEW.out).1
          | succ j => simp at hj
        · have hu : u = strV x := by simpa using hu
          subst hu
          rfl
        · unfold maxLen
          omega
        · omega
        intro v' w6 hown' hgr _
        have k6 := HKX.out.grown hgr (fun b hb => .inr (HOX.out.lt b hb).1)
        have HK6 := Lib.hid k6
        have HO6 : Hid (w6.ownsRow w.heap.size 9 1 v' (d ++ [x]).length ((d ++ [x]).map strV)) := by
          show World.ownsRow _ _ _ _ _ _ _
          simpa using hown'
        clear hown' hgr k6 HOX HKX HNEW HO HK
        go_wp2
        exact ⟨⟨k + 1, d ++ [x], [], by go_num, rfl, by omega, HC2, by simp; omega, Nat.zero_le _, HO6, HK6⟩, by simp [intOf]; omega⟩
      · have q1 : ((c.toNat : Int) == 47) = false := by simp; exact fun e => h47 (UInt8.toNat_inj.1 (by show c.toNat = 47; omega))
        have HC2 : Hid (cutB (s.take (k + 1)) = d ++ [x ++ [c]]) := by show _ = _; rw [HTK.out]; exact cut_snoc c h47 _ _ _ HC.out
        have hcat := run_cat x [c] (by simp; omega)
        clear HC HTK
        go_wp2
        exact ⟨⟨k + 1, d, x ++ [c], by go_num, rfl, by omega, HC2, by omega, by simp; omega, HO, HK⟩, by simp [intOf]; omega⟩
    · have HC2 : Hid (cutB s = d ++ [x]) := by show _ = _; have h1 := HC.out; rwa [List.take_of_length_le (by omega)] at h1
      have HOX := Lib.hid (HO.out.alloc (.cells #[.string ⟨x.toArray⟩] 9))
      have HKX := Lib.hid (HK.out.alloc (.cells #[.string ⟨x.toArray⟩] 9))
      have HNEW := Lib.hid (hp_new wr (.cells #[.string ⟨x.toArray⟩] 9))
      have hbase : w.heap.size ≤ (wr.alloc (.cells #[.string ⟨x.toArray⟩] 9)).heap.size := by simp; have := HSZ.out; omega
      clear HC
      go_wp2_with (at_builtin; refine wpList_append_own _ rfl (.tmp 27) (.tmp 29) 28 rfl w.heap.size 9 ix (.string ByteArray.empty) 1 16 Tryd.underlying28 hiz0 hiz1 hiz2 hiz3 rfl (by decide) _ d.length (d.map strV) rfl HOX.out ⟨wr.heap.size, 0, none⟩ 1 1 [strV x] rfl rfl (fun j u hj => ?_) (fun u hu => ?_) ?_ ?_ hbase ?_)
      · cases j with
        | zero =>
          have hu : strV x = u := by simpa using hj
          subst hu
          exact (cell_one HNEW.out).1
        | succ j => simp at hj
      · have hu : u = strV x := by simpa using hu
        subst hu
        rfl
      · unfold maxLen
        omega
      · omega
      intro v' w6 hown' hgr _
      have k6 := HKX.out.grown hgr (fun b hb => .inr (HOX.out.lt b hb).1)
      have HE : Hid (CutEnd w s (.returned v') w6) := by
        refine ⟨v', rfl, ?_, k6⟩
        rw [HC2.out]
        simpa using hown'
      clear hown' hgr k6 HOX HKX HNEW HO HK
      go_wp2
      go_ret
      exact HE.out
end Go.Proofs.YtgpidbdgodgefaaDoor
