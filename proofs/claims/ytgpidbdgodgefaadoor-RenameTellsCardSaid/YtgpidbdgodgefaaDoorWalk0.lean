/- The walker: the contracts of through and down. Conditions: as the theorems name them. -/
import Derived.Test.YtgpidbdgodgefaaDoorTrees
namespace Go.Proofs.YtgpidbdgodgefaaDoor
open Go.RowKit

/-- Where a walker is, what follows, how many links it went through. -/
structure WSt where
  at_ : List UInt8
  parts : List (List UInt8)
  hops : Nat
/-- Through a link. -/
def thrT (s : WSt) (bs : List UInt8) : WSt × Int :=
  if 8 < s.hops + 1 then (⟨s.at_, s.parts, s.hops + 1⟩, 11)
  else if errN bs ≠ 0 then (⟨s.at_, s.parts, s.hops + 1⟩, errN bs)
  else (⟨if bs.head? = some 47 then [] else s.at_, segs (cutB bs) ++ s.parts, s.hops + 1⟩, 0)
/-- The walker lies at p. -/
def WAt (w : World) (p : Nat) (tv : Value) (s : WSt) : Prop :=
  ∃ pa pc, w.heap[p]? = some (.cells #[tv, .string ⟨s.at_.toArray⟩, .slice pa s.parts.length pc, .int .i64 s.hops] 86 (0, 0)) ∧ Ss w (.slice pa s.parts.length pc) pa pc s.parts ∧ (∀ b, blk pa = some b → b ≠ p)
theorem WAt.keep {w w' : World} {p : Nat} {tv : Value} {s : WSt} (h : WAt w p tv s) (k : Kp (fun _ => False) w w') : WAt w' p tv s := by
  obtain ⟨pa, pc, h1, h2, h3⟩ := h
  exact ⟨pa, pc, k.hp h1 id, h2.keep k (fun _ _ => id), h3⟩

set_option maxHeartbeats 2000000 in
set_option maxRecDepth 100000 in
theorem through_any (p : Nat) (ta : Option Addr) (tl tc : Nat) (s : WSt) (a : Option Addr) (c : Nat) (bs : List UInt8) (m : Int) (w : World) (hp : p ≠ 0) (hm : w.cell? ⟨0, 0, none⟩ = some (.int .i64 m)) (hW : WAt w p (.slice ta tl tc) s) (hx : Sl w (.slice a bs.length c) a c bs) (hb : ∀ b, blk a = some b → b ≠ p)
    (hl : s.parts.length ≤ 100000) (hh : s.hops ≤ 1000) (hbs : bs.length ≤ 140737488355328) :
    Calls Tryd.prog 84 #[.pointer (some ⟨p, 0, none⟩), .slice a bs.length c] w fun e w' => e = .returned (.int .i64 (thrT s bs).2) ∧ WAt w' p (.slice ta tl tc) (thrT s bs).1 ∧ Kp (fun b => b = p) w w' := by
  obtain ⟨at_, parts, hops⟩ := s
  obtain ⟨pa, pc, h1, h2, h3⟩ := hW
  dsimp only at h1 h2 h3 hl hh
  have HR := Lib.hid (show thrT ⟨at_, parts, hops⟩ bs = (if 8 < hops + 1 then (⟨at_, parts, hops + 1⟩, 11) else if errN bs ≠ 0 then (⟨at_, parts, hops + 1⟩, errN bs) else (⟨if bs.head? = some 47 then [] else at_, segs (cutB bs) ++ parts, hops + 1⟩, 0)) from rfl)
  obtain ⟨⟨p0, p1, p2, p3⟩, ⟨l0, l1, l2, l3⟩, lt3⟩ := cell_fr h1
  have k1 : Kp (fun b => b = p) w (w.setCell ⟨p, 3, none⟩ (.int .i64 ((hops : Int) + 1))) := (Kp.refl (fun b => b = p) w).setCell ⟨p, 3, none⟩ (.inl rfl) _
  have g1 := set_f3 (v := .int .i64 ((hops : Int) + 1)) h1
  obtain ⟨⟨q0, q1, q2, q3⟩, ⟨t0, t1, t2, t3⟩, lt4⟩ := cell_fr g1
  have G1 := Lib.hid g1
  have K1 := Lib.hid k1
  have S2 := Lib.hid (h2.keep k1 (fun b hb h => h3 b hb h))
  have X2 := Lib.hid (hx.keep k1 (fun b hb' h => hb b hb' h))
  have M1 := Lib.hid (k1.cell hm (by show ¬ (0 = p); omega))
  have hcv := run_conv X2.out
  have H3 := Lib.hid h3
  clear h1 h2 h3 hx hm k1 g1
  go_enter Tryd.func84, Tryd.ntmps84
  by_cases h8 : 8 < hops + 1
  · have h8' : (hops : Int) + 1 > 8 := by omega
    have HR2 := Lib.hid (show thrT ⟨at_, parts, hops⟩ bs = (⟨at_, parts, hops + 1⟩, 11) from by rw [HR.out, if_pos h8])
    clear HR
    go_wp2
    go_ret
    rw [HR2.out]
    exact ⟨rfl, ⟨pa, pc, G1.out, S2.out, H3.out⟩, K1.out⟩
  · have h8' : ¬ ((hops : Int) + 1 > 8) := by omega
    go_wp2_with fail
    generalize w.setCell ⟨p, 3, none⟩ (.int .i64 ((hops : Int) + 1)) = w1 at *
    refine (nsplit_any bs m _ (by omega) M1.out).mono ?_
    rintro e w2 ⟨hk, ⟨he, v, rfl, ho⟩ | ⟨he, rfl⟩⟩
    · have HR2 := Lib.hid (show thrT ⟨at_, parts, hops⟩ bs = (⟨if bs.head? = some 47 then [] else at_, segs (cutB bs) ++ parts, hops + 1⟩, 0) from by rw [HR.out, if_neg h8, if_neg (by rw [he]; decide)])
      have hbl : bs.length ≤ 120 := by
        unfold errN at he
        by_cases h : 120 < bs.length
        · rw [if_pos h] at he; cases he
        · omega
      have HSL := Lib.hid (show (segs (cutB bs)).length ≤ 121 by have e1 := segs_le (cutB bs); have e2 := cutB_len bs; have e3 := List.count_le_length (a := 47) (l := bs); omega)
      obtain ⟨a1, c1, hs1, _, hf1⟩ := ss_of_owns ho
      have hv := hs1.eq
      subst hv
      have HS1 := Lib.hid hs1
      have HF1 := Lib.hid (show ∀ b, blk a1 = some b → p < b from fun b hb => by have := (hf1 b hb).1; omega)
      have HH := Lib.hid (hk.hp G1.out id)
      have SS := Lib.hid (S2.out.keep hk (fun _ _ => id))
      have XX := Lib.hid (X2.out.keep hk (fun _ _ => id))
      have HK2 := Lib.hid (K1.out.step hk (fun _ _ h => h.elim))
      clear HR hk S2 X2 M1 ho hs1 hf1 hcv p0 p1 p2 p3 l0 l1 l2 l3 q0 q1 q2 q3 t0 t1 t2 t3 he
      generalize segs (cutB bs) = L1 at *
      by_cases hsl : bs.head? = some 47
      · rw [if_pos hsl] at HR2
        obtain ⟨r, rfl⟩ : ∃ r, bs = 47 :: r := by
          cases bs with
          | nil => cases hsl
          | cons x r => exact ⟨r, by simpa using hsl⟩
        obtain ⟨ab, ao, rfl, hx0⟩ := XX.out.seg 0 (by simp)
        rw [show byteV (47 :: r)[0] = .int .u8 47 from rfl, Nat.add_zero] at hx0
        have hlp : ((47 :: r).length : Int) > 0 := by simp
        obtain ⟨⟨p0, p1, p2, p3⟩, ⟨l0, l1, l2, l3⟩, lt3⟩ := cell_fr HH.out
        have HH3 := Lib.hid (set_f1 (v := .string ⟨#[]⟩) HH.out)
        obtain ⟨⟨q0, q1, q2, q3⟩, ⟨t0, t1, t2, t3⟩, lt4⟩ := cell_fr HH3.out
        go_wp2_with fail
        have hsz : (w2.setCell ⟨p, 1, none⟩ (.string ⟨#[]⟩)).heap.size = w2.heap.size := by simp
        have hn := hp_new' (w2.setCell ⟨p, 1, none⟩ (.string ⟨#[]⟩)) (.cells #[.slice a1 L1.length c1, .slice pa parts.length pc] 28) hsz.symm
        obtain ⟨b0, b1, _, _, _⟩ := cell_two hn
        have k3 : Kp (fun b => b = p) w2 ((w2.setCell ⟨p, 1, none⟩ (.string ⟨#[]⟩)).alloc (.cells #[.slice a1 L1.length c1, .slice pa parts.length pc] 28)) := ((Kp.refl (fun b => b = p) w2).setCell ⟨p, 1, none⟩ (.inl rfl) _).alloc _
        have hp5 := hp_old HH3.out (.cells #[.slice a1 L1.length c1, .slice pa parts.length pc] 28)
        refine (concat_any w2.heap.size a1 pa c1 pc L1 parts _ (by have := HSL.out; omega) b0 b1 (HS1.out.keep k3 (fun b hb h => by have := HF1.out b hb; omega)) (SS.out.keep k3 (fun b hb h => H3.out b hb h))).mono ?_
        rintro e w5 ⟨v, a5, c5, rfl, hs5, hf5, hk5⟩
        have hv5 := hs5.eq
        subst hv5
        have hp6 := hk5.hp hp5 id
        have HP6 := Lib.hid hp6
        obtain ⟨⟨e0, e1, e2, e3⟩, ⟨f0, f1, f2, f3⟩, lt6⟩ := cell_fr hp6
        have hne : ∀ b, blk a5 = some b → b ≠ p := fun b hb h => by have h1 := hf5 b hb; have h2 := k3.size; omega
        have k7 : Kp (fun b => b = p) w5 (w5.setCell ⟨p, 2, none⟩ (.slice a5 (L1 ++ parts).length c5)) := (Kp.refl (fun b => b = p) w5).setCell ⟨p, 2, none⟩ (.inl rfl) _
        have HS7 := Lib.hid (hs5.keep k7 (fun b hb h => hne b hb h))
        have HK7 := Lib.hid (((HK2.out.trans k3).step hk5 (fun _ _ h => h.elim)).trans k7)
        have HNE := Lib.hid hne
        clear hs5 hf5 hk5 k3 k7 hne hp5 hp6 hn b0 b1 p0 p1 p2 p3 l0 l1 l2 l3
        go_wp2
        go_ret
        rw [HR2.out, show L1.length + parts.length = (L1 ++ parts).length from List.length_append.symm]
        exact ⟨rfl, ⟨a5, c5, set_f2 HP6.out, HS7.out, HNE.out⟩, HK7.out⟩
      · rw [if_neg hsl] at HR2
        obtain ⟨⟨p0, p1, p2, p3⟩, ⟨l0, l1, l2, l3⟩, lt3⟩ := cell_fr HH.out
        rcases bs with _ | ⟨x, r⟩
        · go_wp2_with fail
          have hsz : (w2).heap.size = w2.heap.size := by simp
          have hn := hp_new' (w2) (.cells #[.slice a1 L1.length c1, .slice pa parts.length pc] 28) hsz.symm
          obtain ⟨b0, b1, _, _, _⟩ := cell_two hn
          have k3 : Kp (fun b => b = p) w2 ((w2).alloc (.cells #[.slice a1 L1.length c1, .slice pa parts.length pc] 28)) := (Kp.refl (fun b => b = p) w2).alloc _
          have hp5 := hp_old HH.out (.cells #[.slice a1 L1.length c1, .slice pa parts.length pc] 28)
          refine (concat_any w2.heap.size a1 pa c1 pc L1 parts _ (by have := HSL.out; omega) b0 b1 (HS1.out.keep k3 (fun b hb h => by have := HF1.out b hb; omega)) (SS.out.keep k3 (fun b hb h => H3.out b hb h))).mono ?_
          rintro e w5 ⟨v, a5, c5, rfl, hs5, hf5, hk5⟩
          have hv5 := hs5.eq
          subst hv5
          have hp6 := hk5.hp hp5 id
          have HP6 := Lib.hid hp6
          obtain ⟨⟨e0, e1, e2, e3⟩, ⟨f0, f1, f2, f3⟩, lt6⟩ := cell_fr hp6
          have hne : ∀ b, blk a5 = some b → b ≠ p := fun b hb h => by have h1 := hf5 b hb; have h2 := k3.size; omega
          have k7 : Kp (fun b => b = p) w5 (w5.setCell ⟨p, 2, none⟩ (.slice a5 (L1 ++ parts).length c5)) := (Kp.refl (fun b => b = p) w5).setCell ⟨p, 2, none⟩ (.inl rfl) _
          have HS7 := Lib.hid (hs5.keep k7 (fun b hb h => hne b hb h))
          have HK7 := Lib.hid (((HK2.out.trans k3).step hk5 (fun _ _ h => h.elim)).trans k7)
          have HNE := Lib.hid hne
          clear hs5 hf5 hk5 k3 k7 hne hp5 hp6 hn b0 b1 p0 p1 p2 p3 l0 l1 l2 l3
          go_wp2
          go_ret
          rw [HR2.out, show L1.length + parts.length = (L1 ++ parts).length from List.length_append.symm]
          exact ⟨rfl, ⟨a5, c5, set_f2 HP6.out, HS7.out, HNE.out⟩, HK7.out⟩
        · obtain ⟨ab, ao, rfl, hx0⟩ := XX.out.seg 0 (by simp)
          rw [show byteV (x :: r)[0] = .int .u8 (x.toNat : Int) from rfl, Nat.add_zero] at hx0
          have hlp : ((x :: r).length : Int) > 0 := by simp
          have hne47 : ¬ ((x.toNat : Int) = 47) := by
            intro h
            apply hsl
            have : x = 47 := UInt8.toNat_inj.1 (by have : x.toNat = 47 := by omega
                                                   rw [this]; rfl)
            rw [this]; rfl
          go_wp2_with fail
          have hsz : (w2).heap.size = w2.heap.size := by simp
          have hn := hp_new' (w2) (.cells #[.slice a1 L1.length c1, .slice pa parts.length pc] 28) hsz.symm
          obtain ⟨b0, b1, _, _, _⟩ := cell_two hn
          have k3 : Kp (fun b => b = p) w2 ((w2).alloc (.cells #[.slice a1 L1.length c1, .slice pa parts.length pc] 28)) := (Kp.refl (fun b => b = p) w2).alloc _
          have hp5 := hp_old HH.out (.cells #[.slice a1 L1.length c1, .slice pa parts.length pc] 28)
          refine (concat_any w2.heap.size a1 pa c1 pc L1 parts _ (by have := HSL.out; omega) b0 b1 (HS1.out.keep k3 (fun b hb h => by have := HF1.out b hb; omega)) (SS.out.keep k3 (fun b hb h => H3.out b hb h))).mono ?_
          rintro e w5 ⟨v, a5, c5, rfl, hs5, hf5, hk5⟩
          have hv5 := hs5.eq
          subst hv5
          have hp6 := hk5.hp hp5 id
          have HP6 := Lib.hid hp6
          obtain ⟨⟨e0, e1, e2, e3⟩, ⟨f0, f1, f2, f3⟩, lt6⟩ := cell_fr hp6
          have hne : ∀ b, blk a5 = some b → b ≠ p := fun b hb h => by have h1 := hf5 b hb; have h2 := k3.size; omega
          have k7 : Kp (fun b => b = p) w5 (w5.setCell ⟨p, 2, none⟩ (.slice a5 (L1 ++ parts).length c5)) := (Kp.refl (fun b => b = p) w5).setCell ⟨p, 2, none⟩ (.inl rfl) _
          have HS7 := Lib.hid (hs5.keep k7 (fun b hb h => hne b hb h))
          have HK7 := Lib.hid (((HK2.out.trans k3).step hk5 (fun _ _ h => h.elim)).trans k7)
          have HNE := Lib.hid hne
          clear hs5 hf5 hk5 k3 k7 hne hp5 hp6 hn b0 b1 p0 p1 p2 p3 l0 l1 l2 l3
          go_wp2
          go_ret
          rw [HR2.out, show L1.length + parts.length = (L1 ++ parts).length from List.length_append.symm]
          exact ⟨rfl, ⟨a5, c5, set_f2 HP6.out, HS7.out, HNE.out⟩, HK7.out⟩
    · have HR2 := Lib.hid (show thrT ⟨at_, parts, hops⟩ bs = (⟨at_, parts, hops + 1⟩, errN bs) from by rw [HR.out, if_neg h8, if_pos he])
      have hk' := hk.hp G1.out id
      have SS := Lib.hid (S2.out.keep hk (fun _ _ => id))
      have HK2 := Lib.hid (K1.out.step hk (fun _ _ h => h.elim))
      have HH := Lib.hid hk'
      clear HR hk hk' S2 X2 M1
      go_wp2
      go_ret
      rw [HR2.out]
      exact ⟨rfl, ⟨pa, pc, HH.out, SS.out, H3.out⟩, HK2.out⟩
end Go.Proofs.YtgpidbdgodgefaaDoor
