/- store.Cut. -/
import Derived.Test.YtoigddekipjkcaaAll
import Derived.Test.YtoigddekipjkcaaSweepL
namespace Go.Proofs.Ytoigddekipjkcaa
set_option linter.all false
open Go Go.RowKit Go.Proofs Go.Maps Go.Shelf
open Go.ChangeMaps (setBlock)
attribute [local go_sem] Oper.semAt_some

theorem infoU64 : (Try.prog.info? 31).map (fun i => (i.zero, i.size, i.bytes)) = some (some (.int .u64 0), 1, 8) := by kernel_rfl
def u64Cells (ps : List U64) : List Value := ps.map fun p => .int .u64 (p.1 : Int)
theorem alGet_mem {K V : Type} [DecidableEq K] {l : List (K × V)} {k : K} {v : V} (h : alGet l k = some v) : (k, v) ∈ l := by
  unfold alGet at h
  cases hf : l.find? (fun x => decide (x.1 = k)) with
  | none => rw [hf] at h; cases h
  | some y =>
    rw [hf] at h
    have h1 := List.find?_some hf
    have h2 := List.mem_of_find?_eq_some hf
    simp at h1 h
    subst h; subst h1; exact h2
theorem alGet_of_mem {K V : Type} [DecidableEq K] {l : List (K × V)} (hn : (l.map (·.1)).Nodup) {x : K × V} (h : x ∈ l) : alGet l x.1 = some x.2 := by
  obtain ⟨j, hj⟩ := List.getElem?_of_mem h
  exact alGet_of hn hj
/-- A box holds a slice that owns the places that are to go. -/
def GoneI (n₀ Bg : Nat) (f : Nat → Bool) (pre : List PH) (W : World) : Prop :=
  ∃ v, Boxed W Bg 36 v ∧ W.ownsRow n₀ 31 1 v (goneBy f pre).length (u64Cells (goneBy f pre)) ∧ True
theorem gone_own (n₀ Bg : Nat) (f : Nat → Bool) : Own (GoneI n₀ Bg f) :=
  holdsRow_own n₀ Bg 36 31 1 (fun pre => (goneBy f pre).length) (fun pre => u64Cells (goneBy f pre)) (fun pre v => True)
/-- The loop's body's post, behind one name. -/
theorem liveL_le (L : List NL) : (liveL L).length ≤ L.length := by
  unfold liveL; have := List.length_filterMap_le (livePart L) (List.range L.length); simp at this; exact this
/-- What lay of the kinds that All reads lies as it lay, where a row of uint64 and its box alone have turned. -/
theorem kpS_grown {A B : World} {row : Option Nat} (h : A.grownBy B row) (hr : ∀ j, row = some j → ∃ c t f, A.heap[j]? = some (.cells c t f) ∧ keepsO (.cells c t f) = false) : KpS A B :=
  ⟨h.size, fun j o ho hk => by
    refine (h.block j (hb_lt ho) (fun e => ?_)).trans ho
    obtain ⟨c, t, f, h1, h2⟩ := hr j e.symm
    rw [h1] at ho; cases ho
    rw [h2] at hk; cases hk⟩
theorem row_at {w : World} {base : Nat} {v : Value} {gs : List U64} {i : Nat} {p : U64} (h : w.ownsRow base 31 1 v gs.length (u64Cells gs)) (hp : gs[i]? = some p) :
    ∃ (g cap : Nat) (cur : Array Value), v = .slice (some ⟨g, 0, none⟩) gs.length cap ∧ base ≤ g ∧ w.heap[g]? = some (.cells cur 31 (0, 0)) ∧ cur[i]? = some (.int .u64 (p.1 : Int)) := by
  have hl := (List.getElem?_eq_some_iff.1 hp).1
  obtain ⟨h1, ⟨rfl, h2⟩ | ⟨g, cap, cur, rfl, h3, h4, h5, h6, h7, h8⟩⟩ := h
  · omega
  · refine ⟨g, cap, cur, rfl, h3, h4, ?_⟩
    have e : (u64Cells gs)[i]? = some (.int .u64 (p.1 : Int)) := by unfold u64Cells; rw [List.getElem?_map, hp]; rfl
    rw [← h8, List.getElem?_take, if_pos (by omega)] at e
    simpa using e
theorem not_mem_take {l : List Nat} (h : l.Nodup) {i p : Nat} (hp : l[i]? = some p) : p ∉ l.take i := by
  intro hm
  obtain ⟨j, hj⟩ := List.getElem?_of_mem hm
  rw [List.getElem?_take] at hj
  split at hj
  · rename_i hji
    rw [List.nodup_iff_pairwise_ne, List.pairwise_iff_getElem] at h
    obtain ⟨a1, a2⟩ := List.getElem?_eq_some_iff.1 hj
    obtain ⟨b1, b2⟩ := List.getElem?_eq_some_iff.1 hp
    exact h j i a1 b1 hji (a2.trans b2.symm)
  · cases hj
theorem Fr.putObj {S : Nat → Prop} {a w : World} (h : Fr S a w) (l : Nat) (o : Obj) (hl : a.heap.size ≤ l) : Fr S a (w.putObj l o) :=
  ⟨h.os, h.tape, h.output, by simp; exact h.size, fun k hk hn => (World.putObj_heap_other (by omega)).trans (h.block k hk hn)⟩
/-- The store's number is set. -/
theorem StoreAt.setN {w : World} {sb : Nat} {A : SA} {F : Nat → Prop} (h : StoreAt w sb A F) (m : Nat) : StoreAt (w.setCell ⟨sb, 1, none⟩ (.int .u64 (m : Int))) sb { A with n := m } F := by
  obtain ⟨cm, pm, M, Ps, NS, NB, S⟩ := h
  have hbW : ∀ j, j ≠ sb → (w.setCell ⟨sb, 1, none⟩ (.int .u64 (m : Int))).heap[j]? = w.heap[j]? := fun j hne => Below.heap_setCell _ _ _ j hne
  refine StoreAt.turn S m A.pins Ps ?_ (S.pin.same (hbW pm (fun e => S.own.2 e.symm))) S.pinV S.pinP (by simp) (fun j hj h1 _ => hbW j h1)
  have := hb_setCell_same (i := 1) S.cells (.int .u64 (m : Int))
  unfold StoreCells
  simpa using this
/-- One more place is killed. -/
theorem kill_next {w : World} {sb log : Nat} {L : List NL} {F : Nat → Prop} {ps : List Nat} (h : StoreL w sb log (killL L ps) F) (p : Nat) {x : HB} (hl : (L[p]?).bind (·.1) = some x) (hn : p ∉ ps) (hL : L.length ≤ 1000000) :
    Calls Try.prog 46 #[.pointer (some ⟨sb, 0, none⟩), .int .u64 p] w fun e w' => e = .returned (.bool true) ∧ StoreL w' sb log (killL L (ps ++ [p])) F ∧ Fr F w w' := by
  have hp := live_lt hl
  obtain ⟨k, hx⟩ : ∃ k, L[p]? = some (some x, k) := by
    cases hx : L[p]? with
    | none => rw [hx] at hl; simp at hl
    | some y => rw [hx] at hl; exact ⟨y.2, by have : y.1 = some x := hl; rw [← this]⟩
  have hx2 := killL_get L ps p k _ hx hn
  have hg : (saOf log (killL L ps)).get p = some x := by simp only [saOf]; rw [hx2]; rfl
  have hc : cntL (killL L ps) ≤ 4611686018427387904 := by have := cntL_le (killL L ps); rw [length_killL] at this; omega
  refine (kill_store h p x (by omega) hg hc (cntL_pos (h := x) hg)).mono ?_
  rintro e w' ⟨he, hS, hF⟩
  refine ⟨he, ?_, hF⟩
  rw [saOf_kill hx2] at hS
  unfold StoreL
  rw [killL_snoc L ps p k _ hx]; exact hS
set_option maxRecDepth 100000 in
set_option maxHeartbeats 1000000 in
theorem Cut_in (n : Nat) (hn : 5 ≤ n) {w : World} {sb log : Nat} {L : List NL} {F : Nat → Prop} (h : StoreL w sb log L F) (m : Nat) (hm : m < 18446744073709551616) (hL : L.length ≤ 1000000) :
    CallsIn Fence.wide n Try.prog 32 #[.pointer (some ⟨sb, 0, none⟩), .int .u64 m] w fun e w' => e = .returned (.int .i64 (cutE L m : Int)) ∧ StoreL w' sb log (cutL L m) F ∧ Fr F w w' := by
  have h' := h
  obtain ⟨cm, pm, M, Ps, NS, NB, S⟩ := h'
  have c1 : w.cell? ⟨sb, 1, none⟩ = some (.int .u64 (L.length : Int)) := cell_of S.cells
  have c4 : w.cell? ⟨sb, 4, none⟩ = some (.map (some pm)) := cell_of S.cells
  have hsl : sb < w.heap.size := hb_lt S.cells
  have H := Lib.hid h; clear h
  have HS := Lib.hid S; clear S
  have h1 : 1 ≤ n := by omega
  obtain ⟨i0, hi, hz0, hz1, hz2⟩ := info_parts infoU64
  refine callsIn_of_wp_marks Try.func32 rfl trivial ?_ rfl
  simp only [Try.ntmps32, List.size_toArray, List.length_cons, List.length_nil, Nat.reduceAdd, Nat.reduceSub, Array.replicate_succ, Array.replicate_zero, List.push_toArray, List.append_toArray, List.nil_append, List.cons_append]
  by_cases hlt : L.length < m
  · have hlt' : (L.length : Int) < (m : Int) := by omega
    gi_wp2_with fail
    gi_quiet (fail)
    gi_wp2_with fail
    refine ⟨_, results_tmp rfl _ _ _, ?_⟩
    have hb : Below w.heap.size w ((w.alloc (Obj.cells #[.int .u64 (m : Int)] 31)).drewN nq) := ⟨rfl, rfl, rfl, by simp, fun j hj => Below.heap_alloc w _ j hj⟩
    have e : cutE L m = 31 := by unfold cutE; rw [if_pos hlt]
    refine ⟨by rw [e]; rfl, ?_, Fr.of_below hb⟩
    unfold cutL; rw [e, if_neg (by decide)]
    exact H.out.below hb
  · have hlt' : ¬ (L.length : Int) < (m : Int) := by omega
    gi_wp2_with fail
    gi_quiet (fail)
    have hnd := HS.out.pin.nodup
    have hnm := nodup_of_map hnd
    have hb0 : Below w.heap.size w ((w.alloc (Obj.cells #[.int .u64 (m : Int)] 31)).drewN nq) := ⟨rfl, rfl, rfl, by simp, fun j hj => Below.heap_alloc w _ j hj⟩
    obtain ⟨W0, HW0⟩ : ∃ W0, W0 = (w.alloc (Obj.cells #[.int .u64 (m : Int)] 31)).drewN nq := ⟨_, rfl⟩
    rw [← HW0]
    replace HW0 := Lib.hid HW0
    have hb1 : Below w.heap.size w W0 := by rw [HW0.out]; exact hb0
    have bN : Hid (Boxed W0 w.heap.size 31 (.int .u64 (m : Int))) := by unfold Hid; rw [HW0.out]; exact hb_new w _
    have hP0 : MapIs ekU evI W0 pm Ps := HS.out.pin.same (hb1.block pm HS.out.pin.lt)
    have c4' : W0.cell? ⟨sb, 4, none⟩ = some (.map (some pm)) := (hb1.cell (p := ⟨sb, 4, none⟩) hsl).trans c4
    have hs0 : w.heap.size < W0.heap.size := bN.out.lt
    gi_wp2_with (first
      | (gi_at_range; refine wpListIn_range_is _ rfl _ rfl Try.underlying78 rfl hP0 ?_; intro w0 hrg0 hg0 hsz0)
      | fail)
    go_frame
    gi_loopg [5] (Ps.length) (fun g _ wr => ∃ done : List (U64 × Nat), g + done.length = Ps.length ∧ Rng ekU evI wr pm W0.heap.size Ps done ∧ (∀ x ∈ done, x.1.1 < m) ∧ Boxed wr w.heap.size 31 (.int .u64 (m : Int)) ∧ Below w.heap.size w wr)
    case atStart =>
      exact ⟨[], by simp, hrg0, by simp, bN.out.kept hg0 (by simp), hb1.grown hg0 hb1.size (fun k e => by cases e)⟩
    case round =>
      obtain ⟨done, hk, hrg, hlow, hbx, hbw⟩ := hrel
      gi_wp2_with (first
        | (gi_at_next; refine wpListIn_next_is _ rfl _ rfl rfl hnd hrg ?_ ?_)
        | fail)
      · intro hall
        have hpin : Hid (pinnedFrom L m = false) := by
          unfold Hid
          cases hpf : pinnedFrom L m with
          | false => rfl
          | true =>
            obtain ⟨p, hp, hne⟩ := (pinnedFrom_iff L m).1 hpf
            have hpl : p < L.length := Classical.byContradiction fun hh => hne (by unfold pinsL; rw [List.getElem?_eq_none (by omega)]; rfl)
            obtain ⟨pu, hpu⟩ : ∃ pu : U64, pu.1 = p := ⟨⟨p, by omega⟩, rfl⟩
            have hv := HS.out.pinV pu
            have hv2 : (saOf log L).pins pu.1 = pinsL L p := by rw [hpu]; rfl
            rw [hv2] at hv
            cases hg : alGet Ps pu with
            | none => rw [hg] at hv; exact absurd hv.symm hne
            | some v =>
              have := hlow _ (hall pu.1 pu.2 v (alGet_mem hg))
              simp only at this; omega
        have HBX := Lib.hid hbx; clear hbx
        have HBW := Lib.hid hbw; clear hbw
        clear hall hlow hrg hk
        gi_wp2_with fail
        refine ⟨trivial, (callsIn_wide.2 (All_any sb _)).mono ?_⟩
        rintro e wL ⟨rfl, hwL⟩
        have bO : Boxed wL wr.heap.size 36 (.slice none 0 0) := by rw [hwL]; exact (Boxed.new wr _ _).alloc _
        have bS : wL.heap[wr.heap.size + 1]? = some (.cells #[.pointer (some ⟨sb, 0, none⟩)] 49 (0, 0)) := by
          rw [hwL]; have := hb_new (wr.alloc (.cells #[.slice none 0 0] 36)) (.cells #[.pointer (some ⟨sb, 0, none⟩)] 49); simpa using this
        have bM : Boxed wL w.heap.size 31 (.int .u64 (m : Int)) := by rw [hwL]; exact (HBX.out.alloc _).alloc _
        have hBL : Below w.heap.size w wL := by rw [hwL]; exact (HBW.out.alloc HBW.out.size _).alloc (by have := HBW.out.size; simp; omega) _
        have hsL : wL.heap.size = wr.heap.size + 2 := by rw [hwL]; simp
        have hwr : w.heap.size + 1 ≤ wr.heap.size := HBX.out.lt
        have eb : (wr.alloc (.cells #[.slice none 0 0] 36)).heap.size = wr.heap.size + 1 := by simp
        rw [eb]
        clear hwL eb
        gi_wp2_with fail
        refine wpIn_rangeFunc_ownG rfl h1 (gf := 66) (lb := #[.pointer (some ⟨wr.heap.size + 1, 0, none⟩)]) rfl trivial (enters_of Try.func66 (by kernel_rfl) rfl)
          (all_stops (n - 1) (by omega) (wr.heap.size + 1) wL bS (H.out.below hBL) hL) kpS_t kpS_b (Below.refl _ _) (fun _ => rfl)
          (fun pre W => GoneI (w.heap.size + 1) wr.heap.size (fun p => decide (m ≤ p)) pre W ∧ Boxed W w.heap.size 31 (.int .u64 (m : Int)) ∧ Below w.heap.size w W)
          (fun _ _ _ => False)
          (OwnFrom.and (Own.from (gone_own _ _ _) _) (OwnFrom.and (Own.from (boxed_own _ _ _) _) (ownFrom_below (Nat.le_refl _) (by omega))))
          (fun _ _ _ _ _ hs _ _ => hs)
          ⟨⟨_, bO, World.ownsRow_nil _ _ _ _, trivial⟩, bM, hBL⟩
          (fun x => { tmps := #[.pointer (some ⟨sb, 0, none⟩), .int .u64 (m : Int), undef, .pointer (some ⟨w.heap.size, 0, none⟩), u4, u5, .pointer (some ⟨wr.heap.size, 0, none⟩), .int .u64 (x.1.1 : Int), undef, undef, .int .u64 (m : Int), .pointer (some ⟨sb, 0, none⟩), .pointer (some ⟨sb, 0, none⟩), .pointer (some ⟨sb, 1, none⟩), .int .u64 (L.length : Int), .bool false, .pointer (some ⟨sb, 0, none⟩), .pointer (some ⟨sb, 0, none⟩), .pointer (some ⟨sb, 4, none⟩), .map (some pm), .pointer (some ⟨W0.heap.size, 0, none⟩), .tuple #[.bool false], .bool false, u23, u24, u25, u26, u27, .pointer (some ⟨sb, 0, none⟩), .func (.func 66) #[] #[.pointer (some ⟨wr.heap.size + 1, 0, none⟩)], .int .u64 (x.1.1 : Int), .agg (encH x.2), undef, undef, undef, undef, undef, undef, undef, undef, undef, undef, undef, undef, undef, undef, undef, undef, undef, undef, undef, undef, undef], defers := [] })
          ?assign ?body ?done ?stop
        case assign =>
          intro l x W K hK
          unfold encP
          gi_wp2
          exact hK
        case body =>
          rintro l pre x W ⟨⟨v, hv, hrow, _⟩, hBX, hB⟩ hplt
          have hc := hv.cell
          have hcm := hBX.cell
          have hgl := goneBy_le (fun p => decide (m ≤ p)) pre
          have hpl : pre.length ≤ 1000000 := by
            have h2 := liveL_le L
            omega
          by_cases hx : m ≤ x.1.1
          · have hx' : (m : Int) ≤ (x.1.1 : Int) := by omega
            have hxb : decide (m ≤ x.1.1) = true := by simpa using hx
            gi_wp2_with (gi_at_builtin; refine wpListIn_append_own _ rfl _ _ 36 rfl (w.heap.size + 1) 31 i0 (.int .u64 0) 1 8 Try.underlying36 hi hz0 hz1 hz2 rfl (by decide) _ _ _ rfl (hrow.alloc _) ⟨W.heap.size, 0, none⟩ 1 1 [.int .u64 (x.1.1 : Int)] rfl rfl (cell_one_new _ _ _) ?h1 ?h63 ?hbytes ?hbase ?_)
            case h1 => simp [Value.oneCell']
            case h63 => unfold maxLen; omega
            case hbytes => omega
            case hbase => have := hv.lt; simp; omega
            intro v' w1 hown' hgrow _
            obtain ⟨g', cap', rfl⟩ := ownsRow_succ hown'
            obtain ⟨hv1, hv2, hr2, hk2, hb2⟩ := hv.appended (by decide) hrow (by have := hv.lt; omega) hwr hown' hgrow
            have hc1 := hv1.cell
            have hf1 := hv1.frozen
            have hKp : KpS W (w1.setCell ⟨wr.heap.size, 0, none⟩ (.slice (some ⟨g', 0, none⟩) ((goneBy (fun p => decide (m ≤ p)) pre).length + 1) cap')) := by
              refine ((KpS.alloc W _).trans (kpS_grown hgrow fun j e => ?_)).trans (kpS_grown (grownBy_setCell' w1 wr.heap.size _) fun j e => ⟨_, _, _, by have := Option.some.inj e; subst this; exact hv1, rfl⟩)
              rcases (hrow.alloc (.cells #[.int .u64 (x.1.1 : Int)] 31)).2 with ⟨rfl, _⟩ | ⟨g, cap, cur, rfl, _, hgb, _⟩
              · simp [Value.ownBlock] at e
              · obtain rfl : g = j := by simpa [Value.ownBlock] using e
                exact ⟨_, _, _, hgb, rfl⟩
            have hBX2 : Boxed (w1.setCell ⟨wr.heap.size, 0, none⟩ (.slice (some ⟨g', 0, none⟩) ((goneBy (fun p => decide (m ≤ p)) pre).length + 1) cap')) w.heap.size 31 (.int .u64 (m : Int)) := (hb2.block w.heap.size (Nat.lt_succ_self _)).trans hBX
            have hG2 : GoneI (w.heap.size + 1) wr.heap.size (fun p => decide (m ≤ p)) (pre ++ [x]) (w1.setCell ⟨wr.heap.size, 0, none⟩ (.slice (some ⟨g', 0, none⟩) ((goneBy (fun p => decide (m ≤ p)) pre).length + 1) cap')) := by
              refine ⟨_, hv2, ?_, trivial⟩
              rw [goneBy_hit _ pre hxb]; simpa [u64Cells] using hr2
            gi_wp2
            exact ⟨hk2.from _, hKp, hG2, hBX2, hB.trans (hb2.mono (Nat.le_succ _))⟩
          · have hx' : ¬ (m : Int) ≤ (x.1.1 : Int) := by omega
            have hxb : decide (m ≤ x.1.1) = false := by simpa using hx
            gi_wp2_with fail
            refine ⟨KeepsFrom.refl _ _, KpS.refl _, ⟨v, hv, ?_, trivial⟩, hBX, hB⟩
            rw [goneBy_miss _ pre hxb]; exact hrow
        case done =>
          rintro D ps W hD rfl ⟨⟨v, hv, hrow, _⟩, hBX, hB⟩ hK
          have hc := hv.cell
          obtain ⟨ad, vcap, rfl⟩ := ownsRow_shape hrow
          obtain ⟨gs, hgs⟩ : ∃ gs, goneBy (fun p => decide (m ≤ p)) (liveL L) = gs := ⟨_, rfl⟩
          rw [hgs] at hrow hc hv
          have HGS := Lib.hid hgs; clear hgs
          have hgl : gs.length ≤ 1000000 := by have := goneBy_le (fun p => decide (m ≤ p)) (liveL L); have := liveL_le L; rw [HGS.out] at *; omega
          have HROW := Lib.hid hrow; clear hrow
          have HK := Lib.hid hK; clear hK
          have HSW := Lib.hid (H.out.below hB)
          gi_wp2_with fail
          gi_loopg [41] (gs.length) (fun g vi wk => ∃ i, vi = .int .i64 (i : Nat) ∧ g + i = gs.length ∧ StoreL wk sb log (killL L ((gs.take i).map (·.1))) F ∧ Fr F W wk)
          case atStart => exact ⟨0, rfl, by simp, by simp [killL_nil]; exact HSW.out, Fr.refl _ _⟩
          case round =>
            obtain ⟨i, rfl, hg1, hSk, hFk⟩ := hrel
            have HG1 := Lib.hid hg1; clear hg1
            have HSk := Lib.hid hSk; clear hSk
            have HFk := Lib.hid hFk; clear hFk
            by_cases hil : i < gs.length
            · have hil' : (i : Int) < (gs.length : Int) := by omega
              obtain ⟨g, rfl⟩ := ownsRow_pos HROW.out (by omega)
              obtain ⟨p, hp⟩ : ∃ p, gs[i]? = some p := ⟨gs[i], List.getElem?_eq_getElem hil⟩
              have HP := Lib.hid hp; clear hp
              obtain ⟨g', cap', cur, he, hbg, hcg, hci⟩ := row_at HROW.out HP.out
              obtain rfl : g = g' := by simp at he; exact he.1
              have ck : wr.cell? ⟨g, i, none⟩ = some (.int .u64 (p.1 : Int)) :=
                (cell_of ((HFk.out.block g (hb_lt hcg) (fun hf => by have := HS.out.lt g hf; omega)).trans hcg)).trans hci
              have hmem := (mem_goneBy hL (fun p => decide (m ≤ p)) p.1).1 (by rw [HGS.out]; exact List.mem_map_of_mem (List.mem_of_getElem? HP.out))
              obtain ⟨_, y, hy⟩ := hmem
              have hnt : p.1 ∉ (gs.take i).map (·.1) := by
                have h1 := sorted_goneBy hL (fun p => decide (m ≤ p))
                rw [HGS.out] at h1
                have := not_mem_take h1 (i := i) (p := p.1) (by rw [List.getElem?_map, HP.out]; rfl)
                rwa [← List.map_take] at this
              have HY := Lib.hid hy; clear hy
              clear he hci
              gi_wp2_with fail
              refine ⟨trivial, (callsIn_wide.2 (kill_next HSk.out p.1 HY.out hnt hL)).mono ?_⟩
              rintro e w5 ⟨rfl, hS5, hF5⟩
              have HS5 := Lib.hid hS5; clear hS5
              have HF5 := Lib.hid hF5; clear hF5
              gi_wp2_with fail
              gi_roundg (gk - 1)
              case measure => have := HG1.out; omega
              case rel =>
                refine ⟨i + 1, by simp, by have := HG1.out; omega, ?_, HFk.out.trans HF5.out (fun _ h => h) (fun _ _ h => h)⟩
                rw [List.take_add_one, HP.out, List.map_append]; exact HS5.out
            · have hil' : ¬ (i : Int) < (gs.length : Int) := by omega
              have e : i = gs.length := by have := HG1.out; omega
              have hsb : F sb := HS.out.foot.1
              obtain ⟨cm2, pm2, M2, Ps2, NS2, NB2, S2⟩ := HSk.out
              have cs2 := Lib.hid S2.cells
              have hsl2 : sb < wr.heap.size := hb_lt S2.cells
              clear S2
              have cbn : wr.cell? ⟨w.heap.size, 0, none⟩ = some (.int .u64 (m : Int)) :=
                cell_of ((HFk.out.block w.heap.size (hb_lt hBX) (fun hf => by have := HS.out.lt _ hf; omega)).trans hBX)
              have cs1 : wr.cell? ⟨sb, 1, none⟩ = some (.int .u64 ((saOf log (killL L ((gs.take i).map (·.1)))).n : Int)) := cell_of cs2.out
              have fs1 : wr.frozen? ⟨sb, 1, none⟩ = false := frozen_of cs2.out
              have hDs : W.heap.size > D := hb_lt HK.out
              have hKr : wr.heap[D]? = some (.deferred (some [])) := (HFk.out.block D hDs (fun hf => by have := HS.out.lt _ hf; omega)).trans HK.out
              have HKR := Lib.hid ((KeepsOthers.setCell wr ⟨sb, 1, none⟩ (.int .u64 (m : Int))).same D _ hKr rfl)
              clear hKr
              gi_wp2_with fail
              refine ⟨by simp, .inl ⟨_, _, rfl, run_takeDeferred HKR.out, ?_⟩⟩
              refine ⟨_, results_tmp rfl _ _ _, ?_⟩
              have ec : cutE L m = 0 := by unfold cutE; rw [if_neg hlt, if_neg (by rw [hpin.out]; decide)]
              have hfin : Fr F w wr := (Fr.of_below (S := F) hB).trans HFk.out (fun _ h => h) (fun _ _ h => h)
              refine ⟨by rw [ec]; rfl, ?_, (hfin.setCell ⟨sb, 1, none⟩ _ (fun _ => hsb)).putObj D _ (by omega)⟩
              have h5 := StoreAt.setN HSk.out m
              have e2 : ({ saOf log (killL L ((gs.take i).map (·.1))) with n := m } : SA) = saOf log (cutL L m) := by
                unfold cutL; rw [if_pos ec, e, List.take_length, ← HGS.out]
                exact (killL_cut L m hL hpin.out).resolve_right hlt
              rw [e2] at h5
              exact h5.kept (by simp) (fun j hj => World.putObj_heap_other (fun e => by have := HS.out.lt j hj; omega))
        case stop =>
          rintro D c pre W _ _ h _
          exact h.elim
      · unfold ekU evI
        intro k0 hk0 q0 w2 hxl hxd hrg2 hg2 hs2 hen
        obtain ⟨x, hx⟩ : ∃ x : U64 × Nat, x = (⟨k0, hk0⟩, q0) := ⟨_, rfl⟩
        rw [← hx] at hxl hxd hrg2
        have hx1 : x.1.1 = k0 := by rw [hx]
        have hx2 : x.2 = q0 := by rw [hx]
        clear hx
        simp only at hen
        have hbx2 : Boxed w2 w.heap.size 31 (.int .u64 (m : Int)) := hbx.kept hg2 (fun e => by have := Option.some.inj e; omega)
        have hbw2 : Below w.heap.size w w2 := hbw.grown hg2 hbw.size (fun k e => by have := Option.some.inj e; omega)
        have cbx := hbx2.cell
        have HRG := Lib.hid hrg2; clear hrg2
        have HXL := Lib.hid hxl; clear hxl
        clear hs2 hg2
        by_cases hge : m ≤ k0
        · have hge' : (m : Int) ≤ (k0 : Int) := by omega
          have hpin : Hid (pinnedFrom L m = true) := by
            refine (pinnedFrom_iff L m).2 ⟨k0, hge, ?_⟩
            have hg := alGet_of_mem hnd HXL.out
            have h3 := HS.out.pinP _ _ hg
            have h2 := HS.out.pinV x.1
            rw [hg] at h2
            have h4 : (saOf log L).pins x.1.1 = pinsL L k0 := by rw [hx1]; rfl
            rw [h4] at h2
            simp at h2; omega
          gi_wp2_with fail
          refine ⟨_, results_tmp rfl _ _ _, ?_⟩
          have e : cutE L m = 51 := by unfold cutE; rw [if_neg hlt, if_pos hpin.out]
          refine ⟨by rw [e]; rfl, ?_, Fr.of_below hbw2⟩
          unfold cutL; rw [e, if_neg (by decide)]
          exact H.out.below hbw2
        · have hge' : ¬ (m : Int) ≤ (k0 : Int) := by omega
          gi_wp2_with fail
          gi_roundg (gk - 1)
          case measure =>
            have := length_le_of_sub (d := done ++ [x]) (l := Ps) HRG.out.nd HRG.out.sub
            simp at this; omega
          case rel =>
            have := length_le_of_sub (d := done ++ [x]) (l := Ps) HRG.out.nd HRG.out.sub
            refine ⟨done ++ [x], by simp at this ⊢; omega, HRG.out, ?_, hbx2, hbw2⟩
            intro y hy
            rcases List.mem_append.1 hy with hy | hy
            · exact hlow y hy
            · simp at hy; subst hy; omega
theorem Cut_any {w : World} {sb log : Nat} {L : List NL} {F : Nat → Prop} (h : StoreL w sb log L F) (m : Nat) (hm : m < 18446744073709551616) (hL : L.length ≤ 1000000) :
    Calls Try.prog 32 #[.pointer (some ⟨sb, 0, none⟩), .int .u64 m] w fun e w' => e = .returned (.int .i64 (cutE L m : Int)) ∧ StoreL w' sb log (cutL L m) F ∧ Fr F w w' :=
  callsIn_wide.1 (Cut_in 5 (by omega) h m hm hL)
end Go.Proofs.Ytoigddekipjkcaa
