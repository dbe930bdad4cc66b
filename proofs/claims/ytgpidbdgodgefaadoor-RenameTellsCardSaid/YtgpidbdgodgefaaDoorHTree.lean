/- Trees of raw items: the contract of Tree of package pentimentohand: a tree that may be. Conditions: as the theorems name them. -/
import Derived.Test.YtgpidbdgodgefaaDoorTreeP
import Derived.Deep.LoopGhost
import Derived.Deep.CutRange
import Derived.Deep.CutBlock
namespace Go.Proofs.YtgpidbdgodgefaaDoor
open Go.RowKit Go.Deep

/-- A tree of raw items. -/
structure Hd (l : List ItemV) : Prop where
  ok : TreeOk l
  small : ∀ x ∈ l, x.path.head? ≠ some 113 ∧ x.bs.length ≤ 60
theorem Hd.nil : Hd [] := ⟨TreeOk.nil, fun x h => (by cases h)⟩
theorem Hd.len {l : List ItemV} (h : Hd l) : l.length ≤ 1000 := Nat.le_trans h.ok.len (by decide)
theorem Hd.paths {l : List ItemV} (h : Hd l) : ∀ x ∈ l, x.path.length ≤ 1000 := fun x hx => Nat.le_trans (isPath_len (h.ok.path x hx).2) (by decide)
theorem Hd.put {l : List ItemV} (h : Hd l) {p : List UInt8} {n : NodeV} (hz : (putL l p n).2 = 0) (hp : p.head? ≠ some 113) (hb : n.bs.length ≤ 60) : Hd (putL l p n).1 :=
  ⟨putL_ok h.ok hz, fun x hx => by
    rcases putL_mem hz hx with rfl | hx
    · exact ⟨hp, hb⟩
    · exact h.small x hx⟩
theorem nmB_q (k : Nat) : (nmB k).head? ≠ some 113 := by
  unfold nmB
  split <;> decide
theorem pathLoop_head : ∀ (k n : Nat) (p : List UInt8), p ≠ [] → (pathLoop k n p).head? = p.head?
  | 0, _, _, _ => rfl
  | k + 1, n, p, h => by
    rw [pathLoop, pathLoop_head k _ _ (by simp)]
    cases p with
    | nil => exact absurd rfl h
    | cons a b => rfl
theorem pathB_q (n : Int) : (pathB n).head? ≠ some 113 := by
  unfold pathB pathN
  rw [pathLoop_head _ _ _ (nmB_ne _)]
  exact nmB_q _
theorem take_q {p : List UInt8} (h : p.head? ≠ some 113) (k : Nat) : (p.take k).head? ≠ some 113 := by
  cases p with
  | nil => simp
  | cons a b =>
    cases k with
    | zero => simp
    | succ k => simpa using h
theorem handNode_small (k m t : Int) (x : Nat) (d : List UInt8) : (handNode k m t x d).bs.length ≤ 60 := by
  unfold handNode
  dsimp only
  have := (linkB_len m).2
  split
  · simp; omega
  · split
    · omega
    · simp

/-- A raw item. -/
structure RawV where
  p : Int
  k : Int
  m : Int
  t : Int
  x : Nat
  d : List UInt8
def inI (z : Int) : Prop := -9223372036854775808 ≤ z ∧ z ≤ 9223372036854775807
/-- A raw item's cells. -/
structure RawAt (w : World) (b off : Nat) (r : RawV) (ad : Option Addr) (cp : Nat) : Prop where
  c0 : w.cell? ⟨b, off, none⟩ = some (.int .i64 r.p)
  c1 : w.cell? ⟨b, off + 1, none⟩ = some (.int .i64 r.k)
  c2 : w.cell? ⟨b, off + 2, none⟩ = some (.int .i64 r.m)
  c3 : w.cell? ⟨b, off + 3, none⟩ = some (.int .i64 r.t)
  c4 : w.cell? ⟨b, off + 4, none⟩ = some (.float .f64 r.x)
  c5 : w.cell? ⟨b, off + 5, none⟩ = some (.slice ad r.d.length cp)
  sl : Sl w (.slice ad r.d.length cp) ad cp r.d
  time : r.x < 18446744073709551616
  len : r.d.length ≤ 140737488355328
  ints : inI r.p ∧ inI r.k ∧ inI r.m ∧ inI r.t
theorem RawAt.keep {w w' : World} {b off : Nat} {r : RawV} {ad : Option Addr} {cp : Nat} (h : RawAt w b off r ad cp) (k : Kp (fun _ => False) w w') : RawAt w' b off r ad cp :=
  ⟨k.cell h.c0 id, k.cell h.c1 id, k.cell h.c2 id, k.cell h.c3 id, k.cell h.c4 id, k.cell h.c5 id, h.sl.keep k (fun _ _ => id), h.time, h.len, h.ints⟩
def RawsAt (w : World) (a : Option Addr) (l : List RawV) : Prop := ∀ i (h : i < l.length), ∃ b off ad cp, a = some ⟨b, off, none⟩ ∧ RawAt w b (off + i * 6) l[i] ad cp

/-- A tree that a call makes, by its items alone. -/
def OwnV (w : World) (base : Nat) (v : Value) (T : List ItemV) : Prop := ∃ L : List ItemP, L.map (·.x) = T ∧ OwnT w base v L
theorem OwnV.nil (w : World) (base : Nat) : OwnV w base (.slice none 0 0) [] := ⟨[], rfl, OwnT.nil _ _⟩
theorem OwnV.keep {w w' : World} {base : Nat} {v : Value} {T : List ItemV} (h : OwnV w base v T) (k : Kp (fun _ => False) w w') : OwnV w' base v T := by
  obtain ⟨L, e, h⟩ := h
  exact ⟨L, e, h.keep k⟩
theorem OwnV.from_ {w : World} {base base' : Nat} {v : Value} {T : List ItemV} (h : OwnV w base v T) (hb : base' ≤ base) : OwnV w base' v T := by
  obtain ⟨L, e, h⟩ := h
  exact ⟨L, e, h.from_ hb⟩
theorem OwnV.tree {w : World} {base : Nat} {v : Value} {T : List ItemV} (h : OwnV w base v T) : ∃ a c, v = .slice a T.length c ∧ TreeAt w a T := by
  obtain ⟨L, e, h⟩ := h
  obtain ⟨a, c, h1, h2, _⟩ := h.asTree e
  exact ⟨a, c, h1, h2⟩
theorem putEnd_own {w w' : World} {R : List ItemV × Int} {e : Ending} (h : PutEnd w R e w') : ∃ v T k, e = .returned (.tuple #[v, .int .i64 k]) ∧ R = (T, k) ∧ OwnV w' w.heap.size v T ∧ Kp (fun _ => False) w w' := by
  obtain ⟨v, L, rfl, hm, ho, hk⟩ := h
  exact ⟨v, R.1, R.2, rfl, rfl, ⟨L, hm, ho⟩, hk⟩

/-- A tree of raw items that the call has made. -/
def HTreeEnd (w : World) (e : Ending) (w' : World) : Prop :=
  ∃ v T, e = .returned v ∧ Hd T ∧ OwnV w' w.heap.size v T ∧ Kp (fun _ => False) w w'

set_option maxHeartbeats 16000000 in
set_option maxRecDepth 100000 in
theorem htree_any (a : Option Addr) (c : Nat) (l : List RawV) (w : World) (h : RawsAt w a l) (_hl : l.length ≤ 9223372036854775807) :
    Calls Tryd.prog 43 #[.slice a l.length c] w (HTreeEnd w) := by
  have HR := Lib.hid h
  clear h
  have hsf : ∀ (a : Addr) (b : Nat) (m : Mode) (w : World), (store a (.float .f64 b) m).run Tryd.prog w = stored Tryd.prog w a (.float .f64 b) m := fun a b m w => run_store _ w a _ m rfl
  go_enter Tryd.func43, Tryd.ntmps43
  go_wp2_with fail
  go_loopg [3, 4] 30 (fun gk v i wr => ∃ (k : Nat) (T : List ItemV), gk = 30 - k ∧ i = .int .i64 k ∧ k ≤ 30 ∧ Hid (Hd T) ∧ Hid (OwnV wr w.heap.size v T) ∧ Hid (Kp (fun _ => False) w wr))
  case atStart => exact ⟨0, [], rfl, rfl, by decide, Lib.hid Hd.nil, Lib.hid (OwnV.nil _ _), Lib.hid (Kp.refl _ _)⟩
  case round =>
    obtain ⟨k, T, rfl, rfl, hk30, HH, HO, HK⟩ := hrel
    by_cases h1 : k < l.length
    case neg =>
      go_wp2
      go_ret
      exact ⟨u3, T, rfl, HH.out, HO.out, HK.out⟩
    by_cases h2 : k < 30
    case neg =>
      go_wp2
      go_ret
      exact ⟨u3, T, rfl, HH.out, HO.out, HK.out⟩
    obtain ⟨rb, off, ad, cp, rfl, hx0⟩ := HR.out k h1
    have HX := Lib.hid hx0
    have hx := hx0.keep HK.out
    obtain ⟨hp1, hk1, hm1, ht1⟩ := hx.ints
    have hc0 := hx.c0
    clear hx hx0
    go_wp2_with fail
    refine (Path_any l[k].p wr hp1.1 hp1.2).mono ?_
    rintro e w' ⟨rfl, rfl⟩
    have hpl := (pathB_len l[k].p).2
    have HPQ := Lib.hid (pathB_q l[k].p)
    generalize pathB l[k].p = ps at *
    go_upto_block 2 with fail
    go_cut [3, 6, 7, 8, 9, 10] from 16 to 103 (fun s3 _ _ _ _ _ wx => ∃ (T : List ItemV), Hid (Hd T) ∧ Hid (OwnV wx w.heap.size s3 T) ∧ Hid (Kp (fun _ => False) w wx))
    case first =>
      go_wp2_with fail
      go_loopg [3, 6] 12 (fun gj v j wr => ∃ (q : Nat) (T : List ItemV), gj = 12 - q ∧ j = .int .i64 q ∧ q ≤ ps.length ∧ Hid (Hd T) ∧ Hid (OwnV wr w.heap.size v T) ∧ Hid (Kp (fun _ => False) w wr))
      case atStart => exact ⟨0, T, rfl, rfl, Nat.zero_le _, HH, HO, HK⟩
      case round =>
        clear HH HO HK
        obtain ⟨q, T, rfl, rfl, hql, HH, HO, HK⟩ := hrel
        by_cases hq : q < ps.length
        case neg =>
          go_wp2
          go_meet
          exact ⟨T, HH, HO, HK⟩
        have hby := byte_at ps q hq
        have ht := bytes_take ps q
        have htl : (ps.take q).length ≤ 11 := by rw [List.length_take]; omega
        have HTQ := Lib.hid (take_q HPQ.out q)
        generalize ps[q] = ch at *
        by_cases h47 : ch = 47
        case neg =>
          have q1 : ((ch.toNat : Int) == 47) = false := by simp; exact fun e => h47 (UInt8.toNat_inj.1 (by show ch.toNat = 47; omega))
          go_wp2
          go_roundg (12 - (q + 1))
          case measure => omega
          case rel => exact ⟨q + 1, T, rfl, by go_num, by omega, HH, HO, HK⟩
        subst h47
        obtain ⟨ta, tc, hv, hT⟩ := HO.out.tree
        have HT := Lib.hid hT
        have hlen := HH.out.len
        subst hv
        clear hT
        obtain ⟨pq, hpq⟩ : ∃ pq, ps.take q = pq := ⟨_, rfl⟩
        rw [hpq] at ht htl HTQ
        clear hpq
        go_wp2_with fail
        refine (refIsDir_any ta tc T pq wr HT.out (by omega)).mono ?_
        rintro e w1 ⟨rfl, hk1'⟩
        have HK1 := Lib.hid (HK.out.trans hk1')
        have HO1 := Lib.hid (HO.out.keep hk1')
        have HT1 := Lib.hid (HT.out.keep hk1')
        clear hk1' HK HO HT
        cases hd : dirL T pq with
        | true =>
          go_wp2
          go_roundg (12 - (q + 1))
          case measure => omega
          case rel => exact ⟨q + 1, T, rfl, by go_num, by omega, HH, HO1, HK1⟩
        | false =>
          go_wp2_with fail
          refine (refGet_any ta tc T pq w1 HT1.out (by omega)).mono ?_
          rintro e w2 ⟨n, na, nc, rfl, h5, h6, h7, h8, hk2⟩
          clear h5 h6 h7 h8
          rw [nodeVal]
          have k3 : Kp (fun _ => False) w2 (w2.alloc (.cells #[.int .i64 n.kind, .int .i64 n.mode, .float .f64 n.time, .slice na n.bs.length nc] 42)) := (Kp.refl _ w2).alloc _
          have HK3 := Lib.hid ((HK1.out.trans hk2).trans k3)
          have HO3 := Lib.hid ((HO1.out.keep hk2).keep k3)
          have HT3 := Lib.hid ((HT1.out.keep hk2).keep k3)
          clear hk2 k3 HK1 HO1 HT1
          cases ho : lookT T pq with
          | some x =>
            go_wp2
            go_meet
            exact ⟨T, HH, HO3, HK3⟩
          | none =>
            go_wp2_with fail
            generalize w2.alloc (.cells #[.int .i64 n.kind, .int .i64 n.mode, .float .f64 n.time, .slice na n.bs.length nc] 42) = w3 at *
            have hP := refPut_any ta tc T pq ⟨2, 493, 0, []⟩ none 0 w3 HT3.out hlen HH.out.paths (by omega) ⟨Sl.nil _, by decide, by decide⟩
            rw [nodeVal] at hP
            refine hP.mono ?_
            rintro e w4 hpe
            obtain ⟨v4, T4, R2, rfl, hT4, ho4, hk4⟩ := putEnd_own hpe
            have HP4 := Lib.hid (fun hz : R2 = 0 => show Hd T4 from by have h0 := HH.out.put (p := pq) (n := ⟨2, 493, 0, []⟩) (by rw [hT4]; exact hz) HTQ.out (by simp); rw [hT4] at h0; exact h0)
            have HO4 := Lib.hid (ho4.from_ HK3.out.size)
            have HOo := Lib.hid (HO3.out.keep hk4)
            have HK4 := Lib.hid (HK3.out.trans hk4)
            clear hP hpe hT4 ho4 hk4 HK3 HO3 HT3
            by_cases hz : R2 = 0
            · subst hz
              have HH4 := Lib.hid (HP4.out rfl)
              clear HP4
              go_wp2
              go_roundg (12 - (q + 1))
              case measure => omega
              case rel => exact ⟨q + 1, T4, rfl, by go_num, by omega, HH4, HO4, HK4⟩
            · have hzb : (R2 == 0) = false := by simpa using hz
              clear HP4
              go_wp2
              go_roundg (12 - (q + 1))
              case measure => omega
              case rel => exact ⟨q + 1, T, rfl, by go_num, by omega, HH, HOo, HK4⟩
    clear HH HO HK
    obtain ⟨T, HH, HO, HK⟩ := hcut
    have hx := HX.out.keep HK.out
    have e1 := hx.c1; have e2 := hx.c2; have e3 := hx.c3; have e4 := hx.c4; have e5 := hx.c5
    have HNd := Lib.hid (Node_any l[k].k l[k].m l[k].t l[k].x ad cp l[k].d wc hx.sl hx.len hx.time hk1 hm1 ht1)
    have HSM := Lib.hid (handNode_small l[k].k l[k].m l[k].t l[k].x l[k].d)
    clear hx
    generalize handNode l[k].k l[k].m l[k].t l[k].x l[k].d = nd at *
    go_wp2_with fail
    refine HNd.out.mono ?_
    rintro e w1 ⟨na, nc, rfl, hn1, _, hk1'⟩
    rw [nodeVal]
    have ka : Kp (fun _ => False) w1 (w1.alloc (.cells #[.int .i64 nd.kind, .int .i64 nd.mode, .float .f64 nd.time, .slice na nd.bs.length nc] 42)) := (Kp.refl _ w1).alloc _
    have HK2 := Lib.hid ((HK.out.trans hk1').trans ka)
    have HO2 := Lib.hid ((HO.out.keep hk1').keep ka)
    have HN2 := Lib.hid (hn1.keepF ka)
    have HB2 := Lib.hid (hp_new w1 (.cells #[.int .i64 nd.kind, .int .i64 nd.mode, .float .f64 nd.time, .slice na nd.bs.length nc] 42))
    obtain ⟨ta, tc, hv, hT⟩ := HO2.out.tree
    have HT2 := Lib.hid hT
    have hlen := HH.out.len
    subst hv
    clear hk1' hn1 HNd HK HO e1 e2 e3 e4 e5 ka hT hc0
    go_wp2_with fail
    generalize w1.alloc (.cells #[.int .i64 nd.kind, .int .i64 nd.mode, .float .f64 nd.time, .slice na nd.bs.length nc] 42) = w2 at *
    generalize w1.heap.size = nb at *
    refine (refGet_any ta tc T ps w2 HT2.out (by omega)).mono ?_
    rintro e w3 ⟨og, oa, oc, rfl, h5, h6, h7, h8, hk3⟩
    clear h5 h6 h7 h8
    rw [nodeVal]
    have k4 : Kp (fun _ => False) w3 (w3.alloc (.cells #[.int .i64 og.kind, .int .i64 og.mode, .float .f64 og.time, .slice oa og.bs.length oc] 42)) := (Kp.refl _ w3).alloc _
    have HK4 := Lib.hid ((HK2.out.trans hk3).trans k4)
    have HO4 := Lib.hid ((HO2.out.keep hk3).keep k4)
    have HN4 := Lib.hid ((HN2.out.keepF hk3).keepF k4)
    have HT4 := Lib.hid ((HT2.out.keep hk3).keep k4)
    have HB4 := Lib.hid (k4.hp (hk3.hp HB2.out id) id)
    have HG4 := Lib.hid (hp_new w3 (.cells #[.int .i64 og.kind, .int .i64 og.mode, .float .f64 og.time, .slice oa og.bs.length oc] 42))
    obtain ⟨b0, b1, b2, b3⟩ := cell_four HB4.out
    obtain ⟨g0, g1, g2, g3⟩ := cell_four HG4.out
    clear hk3 k4 HK2 HO2 HN2 HT2 HB2 HG4
    cases ho : lookT T ps with
    | none =>
      go_wp2_with fail
      generalize w3.alloc (.cells #[.int .i64 og.kind, .int .i64 og.mode, .float .f64 og.time, .slice oa og.bs.length oc] 42) = w4 at *
      have hP := refPut_any ta tc T ps nd na nc w4 HT4.out hlen HH.out.paths (by omega) HN4.out
      rw [nodeVal] at hP
      refine hP.mono ?_
      rintro e w5 hpe
      obtain ⟨v5, T5, R2, rfl, hT5, ho5, hk5⟩ := putEnd_own hpe
      have HP5 := Lib.hid (fun hz : R2 = 0 => show Hd T5 from by have h0 := HH.out.put (p := ps) (n := nd) (by rw [hT5]; exact hz) HPQ.out HSM.out; rw [hT5] at h0; exact h0)
      have HO5 := Lib.hid (ho5.from_ HK4.out.size)
      have HOo := Lib.hid (HO4.out.keep hk5)
      have HK5 := Lib.hid (HK4.out.trans hk5)
      clear hP hT5 hpe ho5 hk5 HK4 HO4 HT4 HN4 HB4
      by_cases hz : R2 = 0
      · subst hz
        have HH5 := Lib.hid (HP5.out rfl)
        clear HP5
        go_wp2
        go_roundg (30 - (k + 1))
        case measure => omega
        case rel => exact ⟨k + 1, T5, rfl, by go_num, by omega, HH5, HO5, HK5⟩
      · have hzb : (R2 == 0) = false := by simpa using hz
        clear HP5
        go_wp2
        go_roundg (30 - (k + 1))
        case measure => omega
        case rel => exact ⟨k + 1, T, rfl, by go_num, by omega, HH, HOo, HK5⟩
    | some x =>
      by_cases hkd : og.kind = 2
      · have hkb : (og.kind == 2) = true := by simp [hkd]
        by_cases hnk : nd.kind = 2
        · have hnb : (nd.kind != 2) = false := by simp [hnk]
          have hnb1 : (nd.kind == 2) = true := by simp [hnk]
          clear hnk hkd
          go_wp2_with fail
          generalize w3.alloc (.cells #[.int .i64 og.kind, .int .i64 og.mode, .float .f64 og.time, .slice oa og.bs.length oc] 42) = w4 at *
          have hP := refPut_any ta tc T ps nd na nc w4 HT4.out hlen HH.out.paths (by omega) HN4.out
          rw [nodeVal] at hP
          refine hP.mono ?_
          rintro e w5 hpe
          obtain ⟨v5, T5, R2, rfl, hT5, ho5, hk5⟩ := putEnd_own hpe
          have HP5 := Lib.hid (fun hz : R2 = 0 => show Hd T5 from by have h0 := HH.out.put (p := ps) (n := nd) (by rw [hT5]; exact hz) HPQ.out HSM.out; rw [hT5] at h0; exact h0)
          have HO5 := Lib.hid (ho5.from_ HK4.out.size)
          have HOo := Lib.hid (HO4.out.keep hk5)
          have HK5 := Lib.hid (HK4.out.trans hk5)
          clear hP hT5 hpe ho5 hk5 HK4 HO4 HT4 HN4 HB4
          by_cases hz : R2 = 0
          · subst hz
            have HH5 := Lib.hid (HP5.out rfl)
            clear HP5
            go_wp2
            go_roundg (30 - (k + 1))
            case measure => omega
            case rel => exact ⟨k + 1, T5, rfl, by go_num, by omega, HH5, HO5, HK5⟩
          · have hzb : (R2 == 0) = false := by simpa using hz
            clear HP5
            go_wp2
            go_roundg (30 - (k + 1))
            case measure => omega
            case rel => exact ⟨k + 1, T, rfl, by go_num, by omega, HH, HOo, HK5⟩
        · have hnb : (nd.kind != 2) = true := by simp [hnk]
          have hnb1 : (nd.kind == 2) = false := by simp [hnk]
          clear hnk hkd
          go_wp2
          go_roundg (30 - (k + 1))
          case measure => omega
          case rel => exact ⟨k + 1, T, rfl, by go_num, by omega, HH, HO4, HK4⟩
      · have hkb : (og.kind == 2) = false := by simp [hkd]
        clear hkd
        go_wp2_with fail
        generalize w3.alloc (.cells #[.int .i64 og.kind, .int .i64 og.mode, .float .f64 og.time, .slice oa og.bs.length oc] 42) = w4 at *
        have hP := refPut_any ta tc T ps nd na nc w4 HT4.out hlen HH.out.paths (by omega) HN4.out
        rw [nodeVal] at hP
        refine hP.mono ?_
        rintro e w5 hpe
        obtain ⟨v5, T5, R2, rfl, hT5, ho5, hk5⟩ := putEnd_own hpe
        have HP5 := Lib.hid (fun hz : R2 = 0 => show Hd T5 from by have h0 := HH.out.put (p := ps) (n := nd) (by rw [hT5]; exact hz) HPQ.out HSM.out; rw [hT5] at h0; exact h0)
        have HO5 := Lib.hid (ho5.from_ HK4.out.size)
        have HOo := Lib.hid (HO4.out.keep hk5)
        have HK5 := Lib.hid (HK4.out.trans hk5)
        clear hP hT5 hpe ho5 hk5 HK4 HO4 HT4 HN4 HB4
        by_cases hz : R2 = 0
        · subst hz
          have HH5 := Lib.hid (HP5.out rfl)
          clear HP5
          go_wp2
          go_roundg (30 - (k + 1))
          case measure => omega
          case rel => exact ⟨k + 1, T5, rfl, by go_num, by omega, HH5, HO5, HK5⟩
        · have hzb : (R2 == 0) = false := by simpa using hz
          clear HP5
          go_wp2
          go_roundg (30 - (k + 1))
          case measure => omega
          case rel => exact ⟨k + 1, T, rfl, by go_num, by omega, HH, HOo, HK5⟩
end Go.Proofs.YtgpidbdgodgefaaDoor
