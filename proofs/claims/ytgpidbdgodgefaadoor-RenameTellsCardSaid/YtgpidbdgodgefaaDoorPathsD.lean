/- The paths of two trees: the contract of the document's paths. Conditions: as the theorem names them. -/
import Derived.Test.YtgpidbdgodgefaaDoorEnter
namespace Go.Proofs.YtgpidbdgodgefaaDoor
open Go.RowKit Go.Deep

set_option maxHeartbeats 8000000 in
set_option maxRecDepth 100000 in
theorem paths2_any (g : Nat) (a1 a2 : Option Addr) (c1 c2 : Nat) (T1 T2 : List ItemV) (w : World) (h0 : w.cell? ⟨g, 0, none⟩ = some (.slice a1 T1.length c1)) (h1 : w.cell? ⟨g, 1, none⟩ = some (.slice a2 T2.length c2)) (hT1 : TreeAt w a1 T1) (hT2 : TreeAt w a2 T2) (hl1 : T1.length ≤ 1000) (hl2 : T2.length ≤ 1000) :
    Calls Tryd.prog 73 #[.slice (some ⟨g, 0, none⟩) 2 2] w fun e w' => ∃ (L : List (List UInt8)) (a' : Option Addr) (c' : Nat), e = .returned (.slice a' L.length c') ∧ L = pathsL T1 T2 ∧ Ss w' (.slice a' L.length c') a' c' L ∧ Kp (fun _ => False) w w' := by
  have HT1 := Lib.hid hT1
  have HT2 := Lib.hid hT2
  have H0 := Lib.hid h0
  have H1 := Lib.hid h1
  clear hT1 hT2 h0 h1
  go_enter Tryd.func73, Tryd.ntmps73
  go_wp2_with fail
  go_loopw [3, 4] (fun v v4 wr => ∃ (L : List (List UInt8)) (pa : Option Addr) (pc : Nat) (i : Int), v = .slice pa L.length pc ∧ v4 = .int .i64 i ∧ (i = 0 ∧ Hid (L = []) ∨ i = 1 ∧ Hid (L = pathsF [] T1) ∨ i = 2 ∧ Hid (L = pathsL T1 T2)) ∧ L.length ≤ T1.length + T2.length ∧ Hid (Ss wr (.slice pa L.length pc) pa pc L) ∧ Hid (Kp (fun _ => False) w wr)) (fun _ v4 _ => 2 - (intOf v4).toNat)
  case atStart => exact ⟨[], none, 0, 0, rfl, rfl, .inl ⟨rfl, Lib.hid rfl⟩, by simp, Lib.hid ⟨rfl, by simp, by decide, fun _ => rfl, fun i hi => by simp at hi⟩, Lib.hid (Kp.refl _ _)⟩
  case round =>
    obtain ⟨L, pa, pc, i, rfl, rfl, hi, hLm, HSs, HK⟩ := hrel
    rcases hi with ⟨rfl, HL⟩ | ⟨rfl, HL⟩ | ⟨rfl, HL⟩
    · have h0 := H0.out
      have hLl : L.length ≤ 0 + 0 := by rw [HL.out]; simp
      replace h0 := HK.out.cell h0 id
      go_wp2_with fail
      go_loopw [3, 5] (fun u v wq => ∃ (k : Nat) (Q : List (List UInt8)) (qa : Option Addr) (qc : Nat), u = .slice qa Q.length qc ∧ v = .int .i64 k ∧ k ≤ T1.length ∧ Q.length ≤ 0 + k ∧ Hid (Q = pathsF [] (T1.take k)) ∧ Hid (Ss wq (.slice qa Q.length qc) qa qc Q) ∧ Hid (Kp (fun _ => False) w wq)) (fun _ v _ => T1.length - (intOf v).toNat)
      case atStart => exact ⟨0, L, pa, pc, rfl, rfl, Nat.zero_le _, hLl, Lib.hid (by rw [HL.out]; rfl), HSs, HK⟩
      case round =>
        clear h0
        clear HL HSs HK hLl
        obtain ⟨k, Q, qa, qc, rfl, rfl, hkl, hQl, HQ, HSs, HK⟩ := hrel
        have h0 := HK.out.cell H0.out id
        by_cases hlt : k < T1.length
        · obtain ⟨b, off, ad, cp, e1, hx⟩ := HT1.out k hlt
          subst e1
          have d0 := HK.out.cell hx.c0 id
          have HSt := Lib.hid (show pathsF [] (T1.take (k + 1)) = enterL T1[k].path Q from by rw [HQ.out, List.take_succ_eq_append_getElem hlt]; unfold pathsF; rw [List.foldl_append]; rfl)
          clear hx HQ
          generalize T1[k] = x at *
          have hE := Lib.hid (enter_any qa qc Q x.path _ HSs.out (by omega))
          have hel := enterL_len x.path Q
          go_wp2_with fail
          refine hE.out.mono ?_
          rintro e w5 ⟨Q5, a5, c5, rfl, e5, s5, hk5⟩
          have HQ5 := Lib.hid (show Q5 = pathsF [] (T1.take (k + 1)) from by rw [e5, HSt.out])
          have HS5 := Lib.hid s5
          have HK5 := Lib.hid (HK.out.trans hk5)
          rw [← e5] at hel
          clear e5 s5 hk5 hE HSt
          go_wp2
          exact ⟨⟨k + 1, Q5, a5, c5, rfl, by go_num, by omega, by omega, HQ5, HS5, HK5⟩, by simp only [intOf]; omega⟩
        · have HQ := Lib.hid (show Q = pathsF [] T1 from by rw [HQ.out, List.take_of_length_le (by omega)])
          go_wp2
          exact ⟨⟨Q, qa, qc, 1, rfl, by go_num, .inr (.inl ⟨rfl, HQ⟩), by omega, HSs, HK⟩, by simp only [intOf]; omega⟩
    · have h1 := H1.out
      have hLl : L.length ≤ T1.length + 0 := by rw [HL.out]; have := pathsF_len T1 []; simpa using this
      replace h1 := HK.out.cell h1 id
      go_wp2_with fail
      go_loopw [3, 5] (fun u v wq => ∃ (k : Nat) (Q : List (List UInt8)) (qa : Option Addr) (qc : Nat), u = .slice qa Q.length qc ∧ v = .int .i64 k ∧ k ≤ T2.length ∧ Q.length ≤ T1.length + k ∧ Hid (Q = pathsF (pathsF [] T1) (T2.take k)) ∧ Hid (Ss wq (.slice qa Q.length qc) qa qc Q) ∧ Hid (Kp (fun _ => False) w wq)) (fun _ v _ => T2.length - (intOf v).toNat)
      case atStart => exact ⟨0, L, pa, pc, rfl, rfl, Nat.zero_le _, hLl, Lib.hid (by rw [HL.out]; rfl), HSs, HK⟩
      case round =>
        clear h1
        clear HL HSs HK hLl
        obtain ⟨k, Q, qa, qc, rfl, rfl, hkl, hQl, HQ, HSs, HK⟩ := hrel
        have h1 := HK.out.cell H1.out id
        by_cases hlt : k < T2.length
        · obtain ⟨b, off, ad, cp, e1, hx⟩ := HT2.out k hlt
          subst e1
          have d0 := HK.out.cell hx.c0 id
          have HSt := Lib.hid (show pathsF (pathsF [] T1) (T2.take (k + 1)) = enterL T2[k].path Q from by rw [HQ.out, List.take_succ_eq_append_getElem hlt]; unfold pathsF; rw [List.foldl_append]; rfl)
          clear hx HQ
          generalize T2[k] = x at *
          have hE := Lib.hid (enter_any qa qc Q x.path _ HSs.out (by omega))
          have hel := enterL_len x.path Q
          go_wp2_with fail
          refine hE.out.mono ?_
          rintro e w5 ⟨Q5, a5, c5, rfl, e5, s5, hk5⟩
          have HQ5 := Lib.hid (show Q5 = pathsF (pathsF [] T1) (T2.take (k + 1)) from by rw [e5, HSt.out])
          have HS5 := Lib.hid s5
          have HK5 := Lib.hid (HK.out.trans hk5)
          rw [← e5] at hel
          clear e5 s5 hk5 hE HSt
          go_wp2
          exact ⟨⟨k + 1, Q5, a5, c5, rfl, by go_num, by omega, by omega, HQ5, HS5, HK5⟩, by simp only [intOf]; omega⟩
        · have HQ := Lib.hid (show Q = pathsL T1 T2 from by rw [HQ.out, List.take_of_length_le (by omega)]; rfl)
          go_wp2
          exact ⟨⟨Q, qa, qc, 2, rfl, by go_num, .inr (.inr ⟨rfl, HQ⟩), by omega, HSs, HK⟩, by simp only [intOf]; omega⟩
    · go_wp2
      go_ret
      exact ⟨L, pa, pc, rfl, HL.out, HSs.out, HK.out⟩
end Go.Proofs.YtgpidbdgodgefaaDoor
