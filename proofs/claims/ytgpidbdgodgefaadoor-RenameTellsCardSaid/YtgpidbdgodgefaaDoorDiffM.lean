/- The small parts of the document's Diff: Get with its tree's own world, kind, changes that a call makes. Conditions: as the theorems name them. -/
import Derived.Test.YtgpidbdgodgefaaDoorEnter
import Derived.Test.YtgpidbdgodgefaaDoorRenMP
namespace Go.Proofs.YtgpidbdgodgefaaDoor
open Go.RowKit Go.Deep

/-- What is there, or nothing; where its bytes lie was there when the tree was. -/
def RGetEnd0 (w0 w : World) (o : Option ItemV) (e : Ending) (w' : World) : Prop :=
  ∃ (n : NodeV) (a : Option Addr) (c : Nat), e = .returned (.tuple #[nodeVal n a c, .bool o.isSome]) ∧ (∀ x, o = some x → n = x.node) ∧ (o = none → n = ⟨0, 0, 0, []⟩) ∧ NAt w' n a c ∧ (0 < n.bs.length → ∀ b, blk a = some b → b < w0.heap.size) ∧ Kp (fun _ => False) w w'

set_option maxHeartbeats 4000000 in
set_option maxRecDepth 100000 in
theorem refGet0_any (a : Option Addr) (c : Nat) (l : List ItemV) (s : List UInt8) (w0 w : World) (h : TreeAt w0 a l) (hk0 : Kp (fun _ => False) w0 w) (hl : l.length ≤ 4611686018427387903) :
    Calls Tryd.prog 47 #[.slice a l.length c, .string ⟨s.toArray⟩] w (RGetEnd0 w0 w (lookT l s)) := by
  have HW0 := Lib.hid hk0
  have k0 : Kp (fun _ => False) w (w.alloc (.cells #[.int .i64 0, .int .i64 0, .float .f64 0, .slice none 0 0] 42)) := (Kp.refl _ w).alloc _
  have HN := Lib.hid (hp_new w (.cells #[.int .i64 0, .int .i64 0, .float .f64 0, .slice none 0 0] 42))
  have HK0 := Lib.hid k0
  have HT := Lib.hid h
  clear h k0
  have hsf : ∀ (a : Addr) (b : Nat) (m : Mode) (w : World), (store a (.float .f64 b) m).run Tryd.prog w = stored Tryd.prog w a (.float .f64 b) m := fun a b m w => run_store _ w a _ m rfl
  go_enter Tryd.func47, Tryd.ntmps47
  go_wp2_with fail
  go_loopw [6] (fun v wr => ∃ i : Nat, v = .int .i64 i ∧ i ≤ l.length ∧ Hid (lookT (l.take i) s = none) ∧ Hid (wr.heap[w.heap.size]? = some (.cells #[.int .i64 0, .int .i64 0, .float .f64 0, .slice none 0 0] 42 (0, 0))) ∧ Hid (Kp (fun _ => False) w wr)) (fun v _ => l.length - (intOf v).toNat)
  case atStart => exact ⟨0, rfl, Nat.zero_le _, Lib.hid rfl, HN, HK0⟩
  case round =>
    obtain ⟨i, rfl, hil, HL, HNr, HK⟩ := hrel
    clear HN HK0
    obtain ⟨⟨p0, p1, p2, p3⟩, ⟨l0, l1, l2, l3⟩, lt3⟩ := cell_fr HNr.out
    by_cases hlt : i < l.length
    · obtain ⟨b, off, ad, cp, rfl, hx0⟩ := HT.out i hlt
      have hx := hx0.keep (HW0.out.trans HK.out)
      obtain ⟨d0, d1, d2, d3, d4, _, _, _⟩ := hx
      have HX := Lib.hid (hx0.keep (HW0.out.trans HK.out))
      have HX0 := Lib.hid hx0
      clear hx0
      by_cases hp : l[i].path = s
      · have HR := Lib.hid (look_hit l s i hlt HL.out hp)
        go_wp2
        obtain ⟨hl4, hk4⟩ := node_laid HNr.out l[i].node ad cp (fun _ => False) w (.inr (Nat.le_refl _)) HK.out
        obtain ⟨_, hk5⟩ := node_laid HNr.out l[i].node ad cp (fun b => b = w.heap.size) _ (.inl rfl) (Kp.refl _ _)
        obtain ⟨y0, y1, y2, y3⟩ := cell_four hl4
        dsimp only [ItemV.node] at y0 y1 y2 y3
        refine bodyPost_ret (v := .tuple #[.agg #[.int .i64 l[i].kind, .int .i64 l[i].mode, .float .f64 l[i].time, .slice ad l[i].bs.length cp], .bool true]) (by simp [results, Tryd.results47, go_sem, y0, y1, y2, y3]) rfl ?_
        rw [HR.out]
        refine ⟨l[i].node, ad, cp, rfl, fun x h => (by cases h; rfl), fun h => (by cases h), ⟨HX.out.sl.keepE hk5 (fun hpos b hb h => ?_), HX.out.time, HX.out.len⟩, fun hpos b hb => HX0.out.sl.blk_in hpos hb, hk4⟩
        have := HX0.out.sl.blk_in hpos hb
        have := HW0.out.size
        omega
      · have HR := Lib.hid (show lookT (l.take (i + 1)) s = none from by rw [look_take l s i hlt HL.out, if_neg hp])
        have hb : (l[i].path == s) = false := by simpa using hp
        go_wp2
        exact ⟨⟨i + 1, by go_num, by omega, HR, HNr, HK⟩, by simp only [intOf]; omega⟩
    · have HR := Lib.hid (show lookT l s = none from by have h5 := HL.out; rwa [List.take_of_length_le (by omega)] at h5)
      go_wp2
      obtain ⟨hl4, hk4⟩ := node_laid HNr.out ⟨0, 0, 0, []⟩ none 0 (fun _ => False) w (.inr (Nat.le_refl _)) HK.out
      obtain ⟨y0, y1, y2, y3⟩ := cell_four hl4
      dsimp only [List.length_nil] at y0 y1 y2 y3 hk4
      refine bodyPost_ret (v := .tuple #[.agg #[.int .i64 0, .int .i64 0, .float .f64 0, .slice none 0 0], .bool false]) (by simp [results, Tryd.results47, go_sem, y0, y1, y2, y3]) rfl ?_
      rw [HR.out]
      exact ⟨⟨0, 0, 0, []⟩, none, 0, rfl, fun x h => (by cases h), fun _ => rfl, ⟨Sl.nil _, by decide, by decide⟩, fun _ b h => (by cases h), hk4⟩


set_option maxHeartbeats 2000000 in
theorem refKind_any (A B : NodeV) (a b : Option Addr) (c d : Nat) (p q : Bool) (w : World) (h1 : NAt w A a c) (h2 : NAt w B b d) :
    Calls Tryd.prog 75 #[nodeVal A a c, nodeVal B b d, .bool p, .bool q] w fun e w' => e = .returned (.int .i64 (kindR A B p q)) ∧ Kp (fun _ => False) w w' := by
  obtain ⟨ka, ma, ta, xs⟩ := A
  obtain ⟨kb, mb, tb, ys⟩ := B
  have k0 : Kp (fun _ => False) w ((w.alloc (.cells #[.int .i64 ka, .int .i64 ma, .float .f64 ta, .slice a xs.length c] 42)).alloc (.cells #[.int .i64 kb, .int .i64 mb, .float .f64 tb, .slice b ys.length d] 42)) := ((Kp.refl _ w).alloc _).alloc _
  have HK0 := Lib.hid k0
  have hcA := run_conv (h1.keepF k0).sl
  have hcB := run_conv (h2.keepF k0).sl
  have HE := Lib.hid (show ∀ p q, kindR ⟨ka, ma, ta, xs⟩ ⟨kb, mb, tb, ys⟩ p q = (if p = false then 1 else if q = false then 2 else if ka ≠ kb then 4 else if xs ≠ ys then 3 else 5) from fun _ _ => rfl)
  clear h1 h2 k0
  unfold nodeVal
  dsimp only at *
  go_enter Tryd.func75, Tryd.ntmps75
  cases p with
  | false =>
    go_wp2
    go_ret
    exact ⟨by rw [HE.out]; rfl, HK0.out⟩
  | true =>
    cases q with
    | false =>
      go_wp2
      go_ret
      exact ⟨by rw [HE.out]; rfl, HK0.out⟩
    | true =>
      by_cases hk : ka = kb
      · have hkb : (ka != kb) = false := by simp [hk]
        have hkb2 : (ka == kb) = true := by simp [hk]
        by_cases hx : xs = ys
        · have hxb : (xs == ys) = true := by simp [hx]
          have HR := Lib.hid (show kindR ⟨ka, ma, ta, xs⟩ ⟨kb, mb, tb, ys⟩ true true = 5 from by rw [HE.out, if_neg (by decide), if_neg (by decide), if_neg (fun h => h hk), if_neg (fun h => h hx)])
          clear hk hx
          go_wp2
          go_ret
          exact ⟨by rw [HR.out]; rfl, HK0.out⟩
        · have hxb : (xs == ys) = false := by simp [hx]
          have HR := Lib.hid (show kindR ⟨ka, ma, ta, xs⟩ ⟨kb, mb, tb, ys⟩ true true = 3 from by rw [HE.out, if_neg (by decide), if_neg (by decide), if_neg (fun h => h hk), if_pos hx])
          clear hk hx
          go_wp2
          go_ret
          exact ⟨by rw [HR.out]; rfl, HK0.out⟩
      · have hkb : (ka != kb) = true := by simp [hk]
        have hkb2 : (ka == kb) = false := by simp [hk]
        have HR := Lib.hid (show kindR ⟨ka, ma, ta, xs⟩ ⟨kb, mb, tb, ys⟩ true true = 4 from by rw [HE.out, if_neg (by decide), if_neg (by decide), if_pos hk])
        clear hk
        go_wp2
        go_ret
        exact ⟨by rw [HR.out]; rfl, HK0.out⟩

/-! ### changes that a call makes -/
structure OwnC (w : World) (base : Nat) (v : Value) (L : List ChgP) : Prop where
  own : w.ownsRow base 52 10 v L.length (L.flatMap ChgP.cells)
  ok : ∀ y ∈ L, y.Ok w
  lo : ∀ y ∈ L, (0 < y.x.old.bs.length → ∀ b, blk y.oa = some b → b < base) ∧ (0 < y.x.new.bs.length → ∀ b, blk y.na = some b → b < base)
theorem OwnC.nil (w : World) (base : Nat) : OwnC w base (.slice none 0 0) [] := ⟨World.ownsRow_nil w _ _ _, fun _ h => (by cases h), fun _ h => (by cases h)⟩
theorem OwnC.keep {w w' : World} {base : Nat} {v : Value} {L : List ChgP} (h : OwnC w base v L) (k : Kp (fun _ => False) w w') : OwnC w' base v L := ⟨ownsN_keep h.own k (fun _ _ => id), fun y hy => (h.ok y hy).keep k, h.lo⟩
theorem OwnC.lt {w : World} {base : Nat} {v : Value} {L : List ChgP} (h : OwnC w base v L) : ∀ k, v.ownBlock = some k → base ≤ k ∧ k < w.heap.size := World.ownsRow.lt h.own
theorem OwnC.chgs {w : World} {base : Nat} {v : Value} {L : List ChgP} (h : OwnC w base v L) : ∃ a c, v = .slice a L.length c ∧ ChgsAt w a (L.map (·.x)) := by
  obtain ⟨a, c, e, _, hp⟩ := own_row ChgP.cells 10 h.own
  refine ⟨a, c, e, ?_⟩
  by_cases h0 : L.length = 0
  · have : L = [] := List.eq_nil_of_length_eq_zero h0
    subst this
    exact fun i hi => by simp at hi
  · obtain ⟨g, cs, rfl, _, hh, hc⟩ := hp (by omega)
    exact chgs_row L hh hc h.ok
theorem infoChg : (Tryd.prog.info? 52).map (fun i => (i.zero, i.size, i.bytes)) = some (some (.agg #[.string ByteArray.empty, .int .i64 0, .int .i64 0, .int .i64 0, .float .f64 0, .slice none 0 0, .int .i64 0, .int .i64 0, .float .f64 0, .slice none 0 0]), 10, 120) := by kernel_rfl
theorem chgInfo : ∃ i, RowInfo Tryd.prog 54 52 i (.agg #[.string ByteArray.empty, .int .i64 0, .int .i64 0, .int .i64 0, .float .f64 0, .slice none 0 0, .int .i64 0, .int .i64 0, .float .f64 0, .slice none 0 0]) 10 120 := by
  obtain ⟨i, h1, h2, h3, h4⟩ := info_parts infoChg
  exact ⟨i, Tryd.underlying54, h1, h2, h3, h4, rfl, by decide⟩
theorem NAt.keepC {w w' : World} {n : NodeV} {a : Option Addr} {c : Nat} {S : Nat → Prop} (h : NAt w n a c) (k : Kp S w w') (hn : 0 < n.bs.length → ∀ b, blk a = some b → ¬ S b) : NAt w' n a c := ⟨h.sl.keepE k hn, h.time, h.len⟩
/-- append of a change, as an operation. -/
theorem wp_append_chg {o : Oper} {a : Act} {w : World} {K : Act → World → Prop} {Q : Exit → Act → World → Prop} (base : Nat) (s x : Operand)
    (ho : o.op = .call { callee := .builtin .append, args := #[s, x], argTypes := #[54, 54] })
    (v : Value) (L : List ChgP) (hs : a.eval s = v) (hown : OwnC w base v L) (hbase : base ≤ w.heap.size) (y : ChgP) (hy : y.Ok w) (hlo : (0 < y.x.old.bs.length → ∀ b, blk y.oa = some b → b < base) ∧ (0 < y.x.new.bs.length → ∀ b, blk y.na = some b → b < base))
    (g : Nat) (hx : a.eval x = .slice (some ⟨g, 0, none⟩) 1 1) (T : TypeId) (fz : Nat × Nat) (hg : w.heap[g]? = some (.cells y.cells.toArray T fz)) (hmax : L.length ≤ 1000000)
    (h : ∀ v' w', OwnC w' base v' (L ++ [y]) → Kp (fun b => v.ownBlock = some b) w w' → K (a.put o.dst v') w') : o.wp Tryd.prog a w K Q := by
  obtain ⟨i, I⟩ := chgInfo
  have hnews : ∀ j u, y.cells[j]? = some u → w.cell? ((⟨g, 0, none⟩ : Addr).add j) = some u := by
    intro j u hj
    rw [Addr.add_lit, Nat.zero_add]
    simpa [World.cell?, hg] using hj
  have hby : (L.length + 1) * 120 ≤ 140737488355328 := by omega
  obtain ⟨v', w', hr, h2, h3, _⟩ := run_append_row (P := Tryd.prog) I base o.type v L.length _ hown.own hbase ⟨g, 0, none⟩ 1 1 y.cells rfl hnews (fun u hu => by
    simp only [ChgP.cells, List.mem_cons, List.not_mem_nil, or_false] at hu
    rcases hu with rfl | rfl | rfl | rfl | rfl | rfl | rfl | rfl | rfl | rfl <;> rfl) (by unfold maxLen; omega) hby
  have k : Kp (fun b => v.ownBlock = some b) w w' := (Kp.refl (fun b => v.ownBlock = some b) w).grown h3 fun k hk => .inl hk
  have hok : ∀ z : ChgP, z.Ok w → ((0 < z.x.old.bs.length → ∀ b, blk z.oa = some b → b < base) ∧ (0 < z.x.new.bs.length → ∀ b, blk z.na = some b → b < base)) → z.Ok w' := fun z hz hl =>
    ⟨hz.1.keepC k fun hp b hb h => by have := hl.1 hp b hb; have := (hown.lt b h).1; omega, hz.2.keepC k fun hp b hb h => by have := hl.2 hp b hb; have := (hown.lt b h).1; omega⟩
  unfold Oper.wp execOp
  simp only [ho, resolve, invoke, builtin, Sem.run_bind, Sem.run_pure, Result.andThen_ok, List.map_toArray, List.map_cons, List.map_nil, hs, hx, hr]
  refine h v' w' ⟨?_, fun z hz => ?_, fun z hz => ?_⟩ k
  · rw [List.length_append, List.flatMap_append, List.length_singleton, List.flatMap_singleton]
    exact h2
  · rcases List.mem_append.1 hz with hz | hz
    · exact hok z (hown.ok z hz) (hown.lo z hz)
    · rw [List.mem_singleton.1 hz]; exact hok y hy hlo
  · rcases List.mem_append.1 hz with hz | hz
    · exact hown.lo z hz
    · rw [List.mem_singleton.1 hz]; exact hlo
end Go.Proofs.YtgpidbdgodgefaaDoor
