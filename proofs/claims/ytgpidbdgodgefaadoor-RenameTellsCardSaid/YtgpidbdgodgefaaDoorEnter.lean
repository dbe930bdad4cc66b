/- A path in its place, once: the contract of the document's enter. Conditions: as the theorem names them. -/
import Derived.Test.YtgpidbdgodgefaaDoorRenL
import Derived.Test.YtgpidbdgodgefaaDoorRefW
namespace Go.Proofs.YtgpidbdgodgefaaDoor
open Go.RowKit Go.Deep

theorem enterL_hit (s : List UInt8) : ∀ (l : List (List UInt8)) (k : Nat) (hk : k < l.length), (∀ j (h : j < l.length), j < k → l[j] < s) → l[k] = s → enterL s l = l
  | x :: r, 0, _, _, e => by
    have e' : x = s := e
    rw [enterL, if_neg (by rw [e']; exact lt_irr s), if_pos e']
  | x :: r, k + 1, hk, h, e => by
    have h0 : x < s := h 0 (by simp) (by omega)
    rw [enterL, if_pos h0, enterL_hit s r k (by simpa using hk) (fun j hj hjk => h (j + 1) (by simpa using hj) (by omega)) e]
theorem enterL_ins (s : List UInt8) : ∀ (l : List (List UInt8)) (k : Nat), k ≤ l.length → (∀ j (h : j < l.length), j < k → l[j] < s) → (∀ h : k < l.length, ¬ l[k] < s ∧ l[k] ≠ s) → enterL s l = l.take k ++ s :: l.drop k
  | [], k, hk, _, _ => by
    have : k = 0 := by simpa using hk
    subst this
    rfl
  | x :: r, 0, _, _, h2 => by
    obtain ⟨h3, h4⟩ : ¬ x < s ∧ x ≠ s := h2 (by simp)
    rw [enterL, if_neg h3, if_neg h4]
    rfl
  | x :: r, k + 1, hk, h, h2 => by
    have h0 : x < s := h 0 (by simp) (by omega)
    rw [enterL, if_pos h0, enterL_ins s r k (by simpa using hk) (fun j hj hjk => h (j + 1) (by simpa using hj) (by omega)) (fun h5 => h2 (by simpa using h5))]
    rfl
theorem ss_head {P : Program} {t e : TypeId} {i : TypeInfo} (I : StrInfo P t e i) {w : World} {a : Option Addr} {c : Nat} {bs : List (List UInt8)} (h : Ss w (.slice a bs.length c) a c bs) (n : Nat) (hn : n ≤ bs.length) :
    (∀ w', (Instr.slice t (.slice a bs.length c) none (some (.int .i64 n)) none).run P w' = .ok (.slice a n c) w') ∧ Ss w (.slice a n c) a c (bs.take n) := by
  have hlen : (bs.take n).length = n := by simp; omega
  have hle := h.le
  refine ⟨fun w' => ?_, ⟨by rw [hlen], by omega, h.max, h.nocap, fun j hj => ?_⟩⟩
  · cases a with
    | none =>
      have hc := h.nocap rfl
      have hn0 : n = 0 := by omega
      subst hc
      subst hn0
      simp [Instr.slice, Instr.sliceBounds, Instr.sliceBound, asIntOf, run_underlying I.sl, sizeOf, typeInfo, I.info]
    | some ad =>
      have h1 : n ≤ c := by omega
      have h0 : ad.add 0 = ad := by simp [Addr.add]
      simp [Instr.slice, Instr.sliceBounds, Instr.sliceBound, asIntOf, run_underlying I.sl, sizeOf, typeInfo, I.info, h1, h0]
  · rw [hlen] at hj
    obtain ⟨b, off, e1, hc⟩ := h.seg j (by omega)
    exact ⟨b, off, e1, by rw [hc]; simp⟩
theorem ss_tail {P : Program} {t e : TypeId} {i : TypeInfo} (I : StrInfo P t e i) {w : World} {a : Option Addr} {c : Nat} {bs : List (List UInt8)} (h : Ss w (.slice a bs.length c) a c bs) (n : Nat) (hn : n ≤ bs.length) :
    ∃ a2 c2, (∀ w', (Instr.slice t (.slice a bs.length c) (some (.int .i64 n)) none none).run P w' = .ok (.slice a2 (bs.length - n) c2) w') ∧ Ss w (.slice a2 (bs.length - n) c2) a2 c2 (bs.drop n) := by
  have hle := h.le
  have hmx := h.max
  cases a with
  | none =>
    have hc := h.nocap rfl
    have hn0 : n = 0 := by omega
    have hb0 : bs = [] := List.eq_nil_of_length_eq_zero (by omega)
    subst hb0 hc hn0
    exact ⟨none, 0, fun w' => by simp [Instr.slice, Instr.sliceBounds, Instr.sliceBound, asIntOf, run_underlying I.sl, sizeOf, typeInfo, I.info], ⟨rfl, by simp, by decide, fun _ => rfl, fun i hi => by simp at hi⟩⟩
  | some ad =>
    by_cases hcn : n = c
    · have hbn : bs.length = n := by omega
      refine ⟨some ad, 0, fun w' => ?_, ⟨by simp, by simp; omega, by decide, fun h => (by cases h), fun i hi => by simp at hi; omega⟩⟩
      subst hcn
      simp [Instr.slice, Instr.sliceBounds, Instr.sliceBound, asIntOf, run_underlying I.sl, sizeOf, typeInfo, I.info, hbn]
    · have h1 : n ≤ c := by omega
      have h2 : ¬ (c - n = 0) := by omega
      refine ⟨some (ad.add n), c - n, fun w' => ?_, ⟨by simp, by simp; omega, by omega, fun h => (by cases h), fun i hi => ?_⟩⟩
      · simp [Instr.slice, Instr.sliceBounds, Instr.sliceBound, asIntOf, run_underlying I.sl, sizeOf, typeInfo, I.info, hn, I.size, Ne.symm hcn]
      · rw [List.length_drop] at hi
        obtain ⟨b, off, e1, hc⟩ := h.seg (n + i) (by omega)
        cases e1
        exact ⟨b, off + n, by simp [Addr.add], by rw [show off + n + i = off + (n + i) by omega, hc]; simp⟩
theorem ss_one (w : World) (s : List UInt8) : Ss (w.alloc (.cells #[.string ⟨s.toArray⟩] 9)) (.slice (some ⟨w.heap.size, 0, none⟩) 1 1) (some ⟨w.heap.size, 0, none⟩) 1 [s] :=
  ⟨rfl, Nat.le_refl _, by decide, fun h => (by cases h), fun i hi => ⟨_, 0, rfl, by
    have hi0 : i = 0 := by simpa using hi
    subst hi0
    have hh := hp_new w (.cells #[.string ⟨s.toArray⟩] 9)
    simp only [World.cell?, hh]
    rfl⟩⟩

set_option maxHeartbeats 8000000 in
set_option maxRecDepth 100000 in
theorem enter_any (a : Option Addr) (c : Nat) (l : List (List UInt8)) (s : List UInt8) (w : World) (h : Ss w (.slice a l.length c) a c l) (hl : l.length ≤ 100000) :
    Calls Tryd.prog 94 #[.slice a l.length c, .string ⟨s.toArray⟩] w fun e w' => ∃ (L : List (List UInt8)) (a' : Option Addr) (c' : Nat), e = .returned (.slice a' L.length c') ∧ L = enterL s l ∧ Ss w' (.slice a' L.length c') a' c' L ∧ Kp (fun _ => False) w w' := by
  have HS := Lib.hid h
  clear h
  go_enter Tryd.func94, Tryd.ntmps94
  go_upto_block 0 with fail
  go_cut [5] from 7 to 20 (fun v wx => ∃ k : Nat, v = .int .i64 k ∧ k ≤ l.length ∧ Hid (∀ j (h : j < l.length), j < k → l[j] < s) ∧ Hid (∀ h : k < l.length, ¬ l[k] < s) ∧ wx = w)
  case first =>
    go_wp2_with fail
    go_loop [5] (fun v => ∃ k : Nat, v = .int .i64 k ∧ k ≤ l.length ∧ Hid (∀ j (h : j < l.length), j < k → l[j] < s)) (fun v => l.length - (intOf v).toNat)
    case atStart => exact ⟨0, rfl, Nat.zero_le _, Lib.hid (fun j h h2 => by omega)⟩
    case round =>
      obtain ⟨k, rfl, hk, HB⟩ := hrel
      by_cases hlt : k < l.length
      · obtain ⟨b, off, rfl, hc⟩ := HS.out.seg k hlt
        unfold strV at hc
        by_cases hs : l[k] < s
        · have hbl : Op.bytesLess l[k] s = true := by rw [less_bytes]; simpa using hs
          have HB2 := Lib.hid (show ∀ j (h : j < l.length), j < k + 1 → l[j] < s from fun j hj hjk => by
            by_cases e : j = k
            · subst e; exact hs
            · exact HB.out j hj (by omega))
          clear hs
          go_wp2
          exact ⟨⟨k + 1, by go_num, by omega, HB2⟩, by simp only [intOf]; omega⟩
        · have hbl : Op.bytesLess l[k] s = false := by rw [less_bytes]; simpa using hs
          have HN := Lib.hid (show ∀ h : k < l.length, ¬ l[k] < s from fun _ => hs)
          clear hs
          go_wp2
          go_meet
          exact ⟨k, rfl, hk, HB, HN, rfl⟩
      · go_wp2
        go_meet
        exact ⟨k, rfl, hk, HB, Lib.hid fun h => absurd h hlt, rfl⟩
  obtain ⟨k, rfl, hk, HB, HN, hwc⟩ := hcut
  replace hwc := hwc.symm
  subst hwc
  by_cases hlt : k < l.length
  · obtain ⟨b, off, rfl, hc⟩ := HS.out.seg k hlt
    unfold strV at hc
    by_cases he : l[k] = s
    · have HX := Lib.hid (enterL_hit s l k hlt HB.out he)
      have heb : (l[k] == s) = true := by simpa using he
      clear he
      go_wp2
      go_ret
      exact ⟨l, _, c, rfl, HX.out.symm, HS.out, Kp.refl _ _⟩
    · have HI := Lib.hid (enterL_ins s l k hk HB.out fun h => ⟨HN.out h, he⟩)
      have heb : (l[k] == s) = false := by simpa using he
      clear he
      obtain ⟨i0, I⟩ := strInfo
      have ka : Kp (fun _ => False) w (w.alloc (.cells #[] 9)) := (Kp.refl _ w).alloc _
      obtain ⟨hsl1, hs1⟩ := ss_head (t := 28) I (HS.out.keep ka fun _ _ => id) k hk
      obtain ⟨a2, c2, hsl2, hs2⟩ := ss_tail (t := 28) I HS.out k hk
      have HS1 := Lib.hid hs1
      have HS2 := Lib.hid hs2
      have HO1 : Hid ((w.alloc (.cells #[] 9)).ownsRow w.heap.size 9 1 (.slice (some ⟨w.heap.size, 0, none⟩) 0 0) 0 ([].map strV)) := owns_lit w #[] _ 0 _ [] (Nat.le_refl _) rfl (by decide) rfl
      have hlt1 : (l.take k).length ≤ 100000 := by rw [List.length_take]; omega
      have hlt2 : (l.drop k).length ≤ 100000 := by rw [List.length_drop]; omega
      have HIP := Lib.hid HI.out
      generalize l.take k = pre at HS1 hlt1 HIP
      generalize l.drop k = post at HS2 hlt2 HIP
      have HKa := Lib.hid ka
      clear hs1 hs2 ka
      go_wp2_with (at_builtin; refine wpList_append_ss rfl I w.heap.size (.tmp 34) (.tmp 37) rfl (.slice (some ⟨w.heap.size, 0, none⟩) 0 0) [] rfl HO1.out (by simp) (.slice (some ⟨b, off, none⟩) k c) (some ⟨b, off, none⟩) c pre rfl HS1.out (by simp only [List.length_nil]; omega) ?_)
      intro v6 w6 hown6 hg6 _
      have hk6 : Kp (fun b => some w.heap.size = some b) (w.alloc (.cells #[] 9)) w6 := (Kp.refl (fun b => some w.heap.size = some b) _).grown hg6 fun k hk => .inl hk
      have HK6 := Lib.hid (HKa.out.step hk6 fun k hk h => by cases h; omega)
      have kb : Kp (fun _ => False) w6 (w6.alloc (.cells #[.string ⟨s.toArray⟩] 9)) := (Kp.refl _ w6).alloc _
      have hown6b : w6.ownsRow w.heap.size 9 1 v6 pre.length (pre.map strV) := hown6
      have HO6 := Lib.hid (ownsN_keep hown6b kb (fun _ _ => id))
      have HK7 := Lib.hid (HK6.out.trans kb)
      have HN6 := Lib.hid (ss_one w6 s)
      clear hown6 hg6 hk6 HO1 HS1 HKa hown6b kb HK6
      go_wp2_with (at_builtin; refine wpList_append_ss rfl I w.heap.size (.tmp 39) (.tmp 41) rfl v6 pre rfl HO6.out (by have := HK7.out.size; exact this) (.slice (some ⟨w6.heap.size, 0, none⟩) 1 1) (some ⟨w6.heap.size, 0, none⟩) 1 [s] rfl HN6.out (by simp only [List.length_cons, List.length_nil]; omega) ?_)
      intro v7 w7 hown7 hg7 _
      have hk7 : Kp (fun b => v6.ownBlock = some b) _ w7 := (Kp.refl (fun b => v6.ownBlock = some b) _).grown hg7 fun k hk => .inl hk
      have HK8 := Lib.hid (HK7.out.step hk7 fun k hk h => by have := (World.ownsRow.lt HO6.out k h).1; omega)
      have hown7b : w7.ownsRow w.heap.size 9 1 v7 (pre ++ [s]).length ((pre ++ [s]).map strV) := by
        rw [List.length_append, List.map_append]
        exact hown7
      have HO7 := Lib.hid hown7b
      have HS7 := Lib.hid (HS2.out.keep HK8.out fun _ _ => id)
      clear hown7 hown7b hg7 hk7 HO6 HK7 HN6 HS2
      go_wp2_with (at_builtin; refine wpList_append_ss rfl I w.heap.size (.tmp 43) (.tmp 46) rfl v7 (pre ++ [s]) rfl HO7.out (by have := HK8.out.size; exact this) (.slice a2 (l.length - k) c2) a2 c2 post rfl HS7.out (by rw [List.length_append]; simp only [List.length_cons, List.length_nil]; omega) ?_)
      intro v8 w8 hown8 hg8 _
      have hk8 : Kp (fun b => v7.ownBlock = some b) _ w8 := (Kp.refl (fun b => v7.ownBlock = some b) _).grown hg8 fun k hk => .inl hk
      have HK9 := Lib.hid (HK8.out.step hk8 fun k hk h => by have := (World.ownsRow.lt HO7.out k h).1; omega)
      obtain ⟨L, hL⟩ : ∃ L, L = pre ++ [s] ++ post := ⟨_, rfl⟩
      have hown8b : w8.ownsRow w.heap.size 9 1 v8 L.length (L.map strV) := by
        rw [hL, List.length_append, List.length_append, List.map_append, List.map_append]
        simp only [List.length_cons, List.length_nil, Nat.zero_add, Nat.add_assoc, Nat.add_comm 1] at hown8 ⊢
        simpa using hown8
      obtain ⟨a9, c9, hs9, _, _⟩ := ss_of_owns hown8b
      have hv9 := hs9.eq
      subst hv9
      have HS9 := Lib.hid hs9
      have HL := Lib.hid (show L = enterL s l from by rw [hL, HIP.out]; simp)
      clear hown8 hown8b hg8 hk8 hs9 hL HO7 HS7 HK8
      go_wp2
      go_ret
      exact ⟨L, a9, c9, rfl, HL.out, HS9.out, HK9.out⟩
  · have HI := Lib.hid (enterL_ins s l k hk HB.out fun h => absurd h hlt)
    obtain ⟨i0, I⟩ := strInfo
    have ka : Kp (fun _ => False) w (w.alloc (.cells #[] 9)) := (Kp.refl _ w).alloc _
    obtain ⟨hsl1, hs1⟩ := ss_head (t := 28) I (HS.out.keep ka fun _ _ => id) k hk
    obtain ⟨a2, c2, hsl2, hs2⟩ := ss_tail (t := 28) I HS.out k hk
    have HS1 := Lib.hid hs1
    have HS2 := Lib.hid hs2
    have HO1 : Hid ((w.alloc (.cells #[] 9)).ownsRow w.heap.size 9 1 (.slice (some ⟨w.heap.size, 0, none⟩) 0 0) 0 ([].map strV)) := owns_lit w #[] _ 0 _ [] (Nat.le_refl _) rfl (by decide) rfl
    have hlt1 : (l.take k).length ≤ 100000 := by rw [List.length_take]; omega
    have hlt2 : (l.drop k).length ≤ 100000 := by rw [List.length_drop]; omega
    have HIP := Lib.hid HI.out
    generalize l.take k = pre at HS1 hlt1 HIP
    generalize l.drop k = post at HS2 hlt2 HIP
    have HKa := Lib.hid ka
    clear hs1 hs2 ka
    go_wp2_with (at_builtin; refine wpList_append_ss rfl I w.heap.size (.tmp 34) (.tmp 37) rfl (.slice (some ⟨w.heap.size, 0, none⟩) 0 0) [] rfl HO1.out (by simp) (.slice a k c) a c pre rfl HS1.out (by simp only [List.length_nil]; omega) ?_)
    intro v6 w6 hown6 hg6 _
    have hk6 : Kp (fun b => some w.heap.size = some b) (w.alloc (.cells #[] 9)) w6 := (Kp.refl (fun b => some w.heap.size = some b) _).grown hg6 fun k hk => .inl hk
    have HK6 := Lib.hid (HKa.out.step hk6 fun k hk h => by cases h; omega)
    have kb : Kp (fun _ => False) w6 (w6.alloc (.cells #[.string ⟨s.toArray⟩] 9)) := (Kp.refl _ w6).alloc _
    have hown6b : w6.ownsRow w.heap.size 9 1 v6 pre.length (pre.map strV) := hown6
    have HO6 := Lib.hid (ownsN_keep hown6b kb (fun _ _ => id))
    have HK7 := Lib.hid (HK6.out.trans kb)
    have HN6 := Lib.hid (ss_one w6 s)
    clear hown6 hg6 hk6 HO1 HS1 HKa hown6b kb HK6
    go_wp2_with (at_builtin; refine wpList_append_ss rfl I w.heap.size (.tmp 39) (.tmp 41) rfl v6 pre rfl HO6.out (by have := HK7.out.size; exact this) (.slice (some ⟨w6.heap.size, 0, none⟩) 1 1) (some ⟨w6.heap.size, 0, none⟩) 1 [s] rfl HN6.out (by simp only [List.length_cons, List.length_nil]; omega) ?_)
    intro v7 w7 hown7 hg7 _
    have hk7 : Kp (fun b => v6.ownBlock = some b) _ w7 := (Kp.refl (fun b => v6.ownBlock = some b) _).grown hg7 fun k hk => .inl hk
    have HK8 := Lib.hid (HK7.out.step hk7 fun k hk h => by have := (World.ownsRow.lt HO6.out k h).1; omega)
    have hown7b : w7.ownsRow w.heap.size 9 1 v7 (pre ++ [s]).length ((pre ++ [s]).map strV) := by
      rw [List.length_append, List.map_append]
      exact hown7
    have HO7 := Lib.hid hown7b
    have HS7 := Lib.hid (HS2.out.keep HK8.out fun _ _ => id)
    clear hown7 hown7b hg7 hk7 HO6 HK7 HN6 HS2
    go_wp2_with (at_builtin; refine wpList_append_ss rfl I w.heap.size (.tmp 43) (.tmp 46) rfl v7 (pre ++ [s]) rfl HO7.out (by have := HK8.out.size; exact this) (.slice a2 (l.length - k) c2) a2 c2 post rfl HS7.out (by rw [List.length_append]; simp only [List.length_cons, List.length_nil]; omega) ?_)
    intro v8 w8 hown8 hg8 _
    have hk8 : Kp (fun b => v7.ownBlock = some b) _ w8 := (Kp.refl (fun b => v7.ownBlock = some b) _).grown hg8 fun k hk => .inl hk
    have HK9 := Lib.hid (HK8.out.step hk8 fun k hk h => by have := (World.ownsRow.lt HO7.out k h).1; omega)
    obtain ⟨L, hL⟩ : ∃ L, L = pre ++ [s] ++ post := ⟨_, rfl⟩
    have hown8b : w8.ownsRow w.heap.size 9 1 v8 L.length (L.map strV) := by
      rw [hL, List.length_append, List.length_append, List.map_append, List.map_append]
      simp only [List.length_cons, List.length_nil, Nat.zero_add, Nat.add_assoc, Nat.add_comm 1] at hown8 ⊢
      simpa using hown8
    obtain ⟨a9, c9, hs9, _, _⟩ := ss_of_owns hown8b
    have hv9 := hs9.eq
    subst hv9
    have HS9 := Lib.hid hs9
    have HL := Lib.hid (show L = enterL s l from by rw [hL, HIP.out]; simp)
    clear hown8 hown8b hg8 hk8 hs9 hL HO7 HS7 HK8
    go_wp2
    go_ret
    exact ⟨L, a9, c9, rfl, HL.out, HS9.out, HK9.out⟩
end Go.Proofs.YtgpidbdgodgefaaDoor
