/- The writers' Text with a slice of another's, or an empty one; both writers side by side. Conditions: as the theorems name them. -/
import Derived.Test.YtgpidbdgodgefaaSizesW
import Derived.Test.YtgpidbdgodgefaaSteps
import Derived.Test.YtgpidbdgodgefaaConv
namespace Go.Proofs.Ytgpidbdgodgefaa
open Go.RowKit

theorem Text_yes2 (p : Nat) (x : Value) (a : Option Addr) (c : Nat) (xs : List UInt8) (row : Option Nat) (bs : List UInt8) (w : World) (hx : Sl w x a c xs) (hw : Wr 81 5 w p row bs) (hb : bs.length + 2 + xs.length ≤ 140737488355328)
    (hn : xs.length ≤ 65535) (ha : ∀ w', Kp (fun k => k = p ∨ row = some k) w w' → Sl w' x a c xs) :
    Calls Try.prog 27 #[.pointer (some ⟨p, 0, none⟩), x] w fun e w' => e = .returned (.bool true) ∧ WrEnd 81 w p row (bs ++ texted xs) w' := by
  have HC := Lib.hid (U16_any p xs.length row bs w hw (by omega))
  have HX := Lib.hid hx
  have he := hx.eq
  subst he
  clear hw hx
  go_enter Try.func27, Try.ntmps27
  go_wp2_with fail
  refine HC.out.mono ?_
  rintro e w1 ⟨rfl, row1, hw1, hf1, hk1⟩
  have hx1 : Sl w1 (.slice a xs.length c) a c xs := ha w1 hk1
  have HR := Lib.hid (Raw_any p (.slice a xs.length c) a c xs row1 _ w1 hx1 hw1 (by simp [be_length]; omega))
  have HF := Lib.hid hf1; have HK := Lib.hid hk1
  clear hf1 hk1 hx1 hw1
  go_wp2_with fail
  refine HR.out.mono ?_
  rintro e w2 ⟨rfl, row2, hw2, hf2, hk2⟩
  have HW := Lib.hid hw2; have HF2 := Lib.hid hf2; have HK2 := Lib.hid hk2
  clear hw2 hf2 hk2
  go_wp2
  go_ret
  refine ⟨rfl, row2, ?_, HF.out.trans HF2.out HK.out.size, ?_⟩
  · have e : bs ++ texted xs = bs ++ be 2 (u64 xs.length) ++ xs := by
      have : u64 (xs.length : Int) = xs.length := by unfold u64; omega
      rw [this, texted, List.append_assoc]
    rw [e]
    exact HW.out
  · refine HK.out.step HK2.out fun i hi h => ?_
    rcases h with h | h
    · exact .inl h
    · rcases HF.out with e | ⟨n, e, hn⟩
      · rw [e] at h; exact .inr h
      · rw [e] at h; cases h; omega

set_option maxHeartbeats 400000 in
theorem rText_yes2 (p : Nat) (x : Value) (a : Option Addr) (c : Nat) (xs : List UInt8) (row : Option Nat) (bs : List UInt8) (w : World) (hx : Sl w x a c xs) (hw : Wr 29 5 w p row bs) (hb : bs.length + 2 + xs.length ≤ 140737488355328)
    (hn : xs.length ≤ 65535) (ha : ∀ w', Kp (fun k => k = p ∨ row = some k) w w' → Sl w' x a c xs) :
    Calls Try.prog 28 #[.pointer (some ⟨p, 0, none⟩), x] w fun e w' => e = .returned (.bool true) ∧ WrEnd 29 w p row (bs ++ texted xs) w' := by
  have HC := Lib.hid (rU16_any p xs.length row bs w hw (by omega))
  have HX := Lib.hid hx
  have he := hx.eq
  subst he
  clear hw hx
  go_enter Try.func28, Try.ntmps28
  go_wp2_with fail
  refine HC.out.mono ?_
  rintro e w1 ⟨rfl, row1, hw1, hf1, hk1⟩
  have hx1 : Sl w1 (.slice a xs.length c) a c xs := ha w1 hk1
  have HR := Lib.hid (rRaw_any p (.slice a xs.length c) a c xs row1 _ w1 hx1 hw1 (by simp [be_length]; omega))
  have HF := Lib.hid hf1; have HK := Lib.hid hk1
  clear hf1 hk1 hx1 hw1
  go_wp2_with fail
  refine HR.out.mono ?_
  rintro e w2 ⟨rfl, row2, hw2, hf2, hk2⟩
  have HW := Lib.hid hw2; have HF2 := Lib.hid hf2; have HK2 := Lib.hid hk2
  clear hw2 hf2 hk2
  go_wp2
  go_ret
  refine ⟨rfl, row2, ?_, HF.out.trans HF2.out HK.out.size, ?_⟩
  · have e : bs ++ texted xs = bs ++ be 2 (u64 xs.length) ++ xs := by
      have : u64 (xs.length : Int) = xs.length := by unfold u64; omega
      rw [this, texted, List.append_assoc]
    rw [e]
    exact HW.out
  · refine HK.out.step HK2.out fun i hi h => ?_
    rcases h with h | h
    · exact .inl h
    · rcases HF.out with e | ⟨n, e, hn⟩
      · rw [e] at h; exact .inr h
      · rw [e] at h; cases h; omega

/-- Both writers stand alike. -/
structure Both (w : World) (p q : Nat) (rx rr : Option Nat) (bs : List UInt8) : Prop where
  x : Wr 81 5 w p rx bs
  r : Wr 29 5 w q rr bs
  hx : ∀ b, rx = some b → b ≠ q
  hr : ∀ b, rr = some b → b ≠ p
  hh : ∀ b, rx = some b → rr ≠ some b

theorem Both.keep {w w1 : World} {p q : Nat} {rx rr : Option Nat} {bs : List UInt8} {S : Nat → Prop} (h : Both w p q rx rr bs) (k : Kp S w w1) (hp : ¬ S p) (hq : ¬ S q) (h1 : ∀ b, rx = some b → ¬ S b) (h2 : ∀ b, rr = some b → ¬ S b) : Both w1 p q rx rr bs :=
  ⟨h.x.keep k hp h1, h.r.keep k hq h2, h.hx, h.hr, h.hh⟩

theorem Both.mid {w w1 : World} {p q : Nat} {rx rr : Option Nat} {bs : List UInt8} (h : Both w p q rx rr bs) (hpq : p ≠ q) (k1 : Kp (fun k => k = p ∨ rx = some k) w w1) : Wr 29 5 w1 q rr bs := by
  refine h.r.keep k1 (fun e => ?_) (fun b hb e => ?_)
  · rcases e with e | e
    · exact hpq e.symm
    · exact h.hx q e rfl
  · rcases e with e | e
    · exact h.hr b hb e
    · exact h.hh b e hb

theorem Both.after {w w1 w2 : World} {p q : Nat} {rx rr rx1 rr1 : Option Nat} {bs bs1 : List UInt8} (h : Both w p q rx rr bs) (hpq : p ≠ q) (h1 : Wr 81 5 w1 p rx1 bs1) (f1 : Fresh w rx rx1) (k1 : Kp (fun k => k = p ∨ rx = some k) w w1)
    (h2 : Wr 29 5 w2 q rr1 bs1) (f2 : Fresh w1 rr rr1) (k2 : Kp (fun k => k = q ∨ rr = some k) w1 w2) : Both w2 p q rx1 rr1 bs1 := by
  have hpl := h.x.lt
  have hql := h.r.lt
  have hs := k1.size
  have a1 : ∀ b, rx1 = some b → b ≠ q := by
    intro b hb
    rcases f1 with e | ⟨n, e, hn⟩
    · exact h.hx b (e ▸ hb)
    · rw [e] at hb; cases hb; omega
  have a2 : ∀ b, rr1 = some b → b ≠ p := by
    intro b hb
    rcases f2 with e | ⟨n, e, hn⟩
    · exact h.hr b (e ▸ hb)
    · rw [e] at hb; cases hb; omega
  have a3 : ∀ b, rx1 = some b → rr ≠ some b := by
    intro b hb
    rcases f1 with e | ⟨n, e, hn⟩
    · exact h.hh b (e ▸ hb)
    · have hbn : n = b := Option.some.inj (e.symm.trans hb)
      intro e2
      have := (h.r.row b e2).2
      omega
  refine ⟨h1.keep k2 (fun e => ?_) (fun b hb e => ?_), h2, a1, a2, fun b hb => ?_⟩
  · rcases e with e | e
    · exact hpq e
    · exact h.hr p e rfl
  · rcases e with e | e
    · exact a1 b hb e
    · exact a3 b hb e
  · rcases f2 with e | ⟨n, e, hn⟩
    · rw [e]; exact a3 b hb
    · rw [e]
      intro e2
      have hbn : n = b := Option.some.inj e2
      have := (h1.row b hb).2
      omega
end Go.Proofs.Ytgpidbdgodgefaa
