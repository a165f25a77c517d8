/- store.Sweep. -/
import Derived.Test.YtoigddekipjkcaaCut
namespace Go.Proofs.Ytoigddekipjkcaa
set_option linter.all false
open Go Go.RowKit Go.Proofs Go.Maps Go.Shelf
open Go.ChangeMaps (setBlock)
attribute [local go_sem] Oper.semAt_some

/-- A slice of uint64s, wherever it lies. -/
def NumRow (w : World) (v : Value) (ks : List U64) : Prop :=
  ∃ ad cap, v = .slice ad ks.length cap ∧ ∀ (i : Nat) (k : U64), ks[i]? = some k → ∃ b o, ad = some ⟨b, o, none⟩ ∧ w.cell? ⟨b, o + i, none⟩ = some (.int .u64 (k.1 : Int))
theorem cell_lt {w : World} {a : Addr} {v : Value} (h : w.cell? a = some v) : a.block < w.heap.size := by
  obtain ⟨b, o, sp⟩ := a
  unfold World.cell? at h
  cases hb : w.heap[b]? with
  | none => rw [hb] at h; simp at h
  | some ob => exact hb_lt hb
theorem NumRow.below {w w' : World} {v : Value} {ks : List U64} (h : NumRow w v ks) (hb : Below w.heap.size w w') : NumRow w' v ks := by
  obtain ⟨ad, cap, e, hr⟩ := h
  refine ⟨ad, cap, e, fun i k hi => ?_⟩
  obtain ⟨b, o, e2, hc⟩ := hr i k hi
  exact ⟨b, o, e2, (hb.cell (p := ⟨b, o + i, none⟩) (cell_lt hc)).trans hc⟩
/-- How often each number is told. -/
def cntStep (M : List (U64 × Nat)) (k : U64) : List (U64 × Nat) := alPut M k ((alGet M k).getD 0 + 1)
def cntsOf (ks : List U64) : List (U64 × Nat) := ks.foldl cntStep []
def cntAt (ks : List U64) (k : U64) : Nat := (alGet (cntsOf ks) k).getD 0
theorem cntsOf_snoc (ks : List U64) (k : U64) : cntsOf (ks ++ [k]) = alPut (cntsOf ks) k (cntAt ks k + 1) := by simp [cntsOf, cntStep, cntAt]
theorem cnt_fold (ks : List U64) (k : U64) : ∀ M : List (U64 × Nat), (alGet (ks.foldl cntStep M) k).getD 0 = (alGet M k).getD 0 + ks.count k := by
  induction ks with
  | nil => intro M; simp
  | cons a ks ih =>
    intro M
    rw [List.foldl_cons, ih, cntStep, alGet_put, List.count_cons]
    by_cases h : k = a
    · subst h; simp; omega
    · rw [if_neg h]
      have : (a == k) = false := by simpa using fun e => h (Subtype.ext e.symm)
      simp [this]
theorem cntAt_eq (ks : List U64) (k : U64) : cntAt ks k = ks.count k := by
  unfold cntAt cntsOf; rw [cnt_fold]; simp [alGet]
theorem cntAt_le (ks : List U64) (k : U64) : cntAt ks k ≤ ks.length := by rw [cntAt_eq]; exact List.count_le_length
theorem cntAt_zero (ks : List U64) (k : U64) : cntAt ks k = 0 ↔ k ∉ ks := by rw [cntAt_eq, List.count_eq_zero]
/-- What a sweep drops. -/
def goesBy (L : List NL) (ks : List U64) (p : Nat) : Bool := cntAt ks (mk64 p) == 0 && pinsL L p == 0
def sweepG (L : List NL) (ks : List U64) : List U64 := goneBy (goesBy L ks) (liveL L)
def sweepL (L : List NL) (ks : List U64) : List NL := killL L ((sweepG L ks).map (·.1))
section
variable {K V : Type} {F : Fence} {nF : Nat} {P : Program} {kt et T : TypeId} {ek : K → Value} {ev : V → Value} (w : World) {ops : Array Oper} {rest : List Oper} {o : Oper} {a : Act} {Q : Exit → Act → World → Prop}
/-- 'm[k] = v', in a fence. -/
theorem wpListIn_put_is [DecidableEq K] (hg : o.guard = none) (m x v : Operand) (hop : o.op = Op.mapUpdate T m x v) (E : KeyEnc P kt ek) (ht : P.underlying T = some (.map kt et))
    {b : Nat} {l : List (K × V)} (h : MapIs ek ev w b l) (k : K) (vv : V) (hm : a.eval m = .map (some b)) (hx : a.eval x = ek k) (hv : a.eval v = ev vv)
    (hK : ∀ ob, MapIs ek ev (setBlock w b ob) b (alPut l k vv) → wpListIn F nF P ops Q rest (a.put o.dst undef) (setBlock w b ob)) :
    wpListIn F nF P ops Q (o :: rest) a w := by
  refine wpListIn_plain hg fun K' hK' => ?_
  obtain ⟨ob, hrun, r1⟩ := h.update E ht k vv
  unfold Oper.wpIn
  refine ⟨by simp [Oper.about, hop], ?_⟩
  rw [Oper.semAt_plain F _ _ (by rw [hop]; intro c hc'; cases hc')]
  simp [execOp, hop, hm, hx, hv, hrun, Result.andThen]
  exact hK' _ _ (hK ob r1)
end
theorem look_cnt {w : World} {mb : Nat} {ks : List U64} (h : MapIs ekU evI w mb (cntsOf ks)) (k : U64) :
    (Instr.lookup 78 (.map (some mb)) (.int .u64 (k.1 : Int)) false).run Try.prog w = .ok (.int .i64 (cntAt ks k : Int)) w := by
  have := MapIs.lookup keyU Try.underlying78 zeroInt h k false
  rw [ekU] at this
  rw [this]
  simp only [Bool.false_eq_true, if_false]
  unfold cntAt
  cases hg : alGet (cntsOf ks) k with
  | none => simp
  | some v => simp [evI]
set_option maxRecDepth 100000 in
set_option maxHeartbeats 1000000 in
theorem Sweep_in (n : Nat) (hn : 5 ≤ n) {w : World} {sb log : Nat} {L : List NL} {F : Nat → Prop} (h : StoreL w sb log L F) (v : Value) (ks : List U64) (hr : NumRow w v ks) (hks : ks.length ≤ 1000000) (hL : L.length ≤ 1000000) :
    CallsIn Fence.wide n Try.prog 26 #[.pointer (some ⟨sb, 0, none⟩), v] w fun e w' => e = .returned (.int .u64 ((sweepG L ks).length : Int)) ∧ StoreL w' sb log (sweepL L ks) F ∧ Fr F w w' := by
  have h' := h
  obtain ⟨cm, pm, M, Ps, NS, NB, S⟩ := h'
  obtain ⟨ad, cap, rfl, hrow⟩ := hr
  have HR : Hid (NumRow w (.slice ad ks.length cap) ks) := ⟨ad, cap, rfl, hrow⟩
  clear hrow
  have hsl : sb < w.heap.size := hb_lt S.cells
  have H := Lib.hid h; clear h
  have HS := Lib.hid S; clear S
  have h1 : 1 ≤ n := by omega
  obtain ⟨i0, hi, hz0, hz1, hz2⟩ := info_parts infoU64
  have hmm := @run_makeMap Try.prog
  refine callsIn_of_wp_marks Try.func26 rfl trivial ?_ rfl
  simp only [Try.ntmps26, List.size_toArray, List.length_cons, List.length_nil, Nat.reduceAdd, Nat.reduceSub, Array.replicate_succ, Array.replicate_zero, List.push_toArray, List.append_toArray, List.nil_append, List.cons_append]
  gi_wp2_with fail
  refine wpIn_name fun W0 HW0 => ?_
  have bS0 : Hid (Boxed W0 w.heap.size 49 (.pointer (some ⟨sb, 0, none⟩))) := by
    unfold Hid; rw [HW0.out]; exact ((Boxed.new w _ _).alloc _).alloc _
  have bM0 : Hid (Boxed W0 (w.heap.size + 1 + 1) 78 (.map (some (w.heap.size + 1)))) := by
    unfold Hid; rw [HW0.out]
    have := Boxed.new ((w.alloc (Obj.cells #[Value.pointer (some { block := sb, off := 0 })] 49)).alloc (Obj.map #[] 0)) 78 (.map (some (w.heap.size + 1)))
    simpa using this
  have hM0 : Hid (MapIs ekU evI W0 (w.heap.size + 1) (cntsOf [])) := by
    unfold Hid; rw [HW0.out]
    refine MapIs.alloc ?_ _
    refine MapIs.made ?_
    have := World.alloc_heap_new (w.alloc (Obj.cells #[Value.pointer (some { block := sb, off := 0 })] 49)) (Obj.map #[] 0)
    simpa using this
  have hB0 : Hid (Below w.heap.size w W0) := by
    unfold Hid; rw [HW0.out]
    exact (((Below.refl _ w).alloc (Nat.le_refl _) _).alloc (by simp) _).alloc (by simp; omega) _
  clear hmm
  gi_loopg [15] (ks.length) (fun g vi wr => ∃ i, vi = .int .i64 (i : Nat) ∧ g + i = ks.length ∧ MapIs ekU evI wr (w.heap.size + 1) (cntsOf (ks.take i)) ∧ Boxed wr w.heap.size 49 (.pointer (some ⟨sb, 0, none⟩)) ∧ Boxed wr (w.heap.size + 1 + 1) 78 (.map (some (w.heap.size + 1))) ∧ Below w.heap.size w wr)
  case atStart => exact ⟨0, rfl, by simp, hM0.out, bS0.out, bM0.out, hB0.out⟩
  case round =>
    obtain ⟨i, rfl, hg1, hMr, bS, bM, hBr⟩ := hrel
    have HG1 := Lib.hid hg1; clear hg1
    have HMr := Lib.hid hMr; clear hMr
    have hcS := bS.cell
    have hcM := bM.cell
    have HBS := Lib.hid bS; clear bS
    have HBM := Lib.hid bM; clear bM
    by_cases hil : i < ks.length
    · have hil' : (i : Int) < (ks.length : Int) := by omega
      obtain ⟨k, hk⟩ : ∃ k, ks[i]? = some k := ⟨ks[i], List.getElem?_eq_getElem hil⟩
      obtain ⟨ad2, cap2, e2, hrow⟩ := HR.out.below hBr
      obtain ⟨b, o, e3, hck⟩ := hrow i k hk
      obtain ⟨rfl, rfl⟩ : ad2 = ad ∧ cap2 = cap := by simp at e2; exact ⟨e2.1.symm, e2.2.symm⟩
      have HKK := Lib.hid hk; clear hk hrow e2
      subst e3
      obtain ⟨c, hc⟩ : ∃ c, cntAt (ks.take i) k = c := ⟨_, rfl⟩
      have hcl : c ≤ 1000000 := by have := cntAt_le (ks.take i) k; rw [hc] at this; simp at this; omega
      have hlk := look_cnt HMr.out k
      rw [hc] at hlk
      have HC := Lib.hid hc; clear hc
      gi_wp2_with (gi_at_mapUpdate; refine wpListIn_put_is (T := 78) _ rfl _ _ _ rfl keyU Try.underlying78 HMr.out k (c + 1) rfl rfl (by simp [evI, Act.eval]) ?_; intro ob hM'; have HM' := Lib.hid hM'; clear hM')
      gi_roundg (gk - 1)
      case measure => have := HG1.out; omega
      case rel =>
        have hne0 : ∀ j, j ≠ w.heap.size + 1 → (setBlock wr (w.heap.size + 1) ob).heap[j]? = wr.heap[j]? := fun j hj => hb_block_setBlock _ ob j hj
        refine ⟨i + 1, by simp, by have := HG1.out; omega, ?_, (hne0 _ (by omega)).trans HBS.out, (hne0 _ (by omega)).trans HBM.out, ?_⟩
        · have e : ks.take (i + 1) = ks.take i ++ [k] := by rw [List.take_add_one, HKK.out]; rfl
          rw [e, cntsOf_snoc, HC.out]; exact HM'.out
        · exact ⟨hBr.os, hBr.tape, hBr.output, by rw [size_setBlock]; exact hBr.size, fun j hj => (hne0 j (by omega)).trans (hBr.block j hj)⟩
    · have hil' : ¬ (i : Int) < (ks.length : Int) := by omega
      have e : i = ks.length := by have := HG1.out; omega
      have HM1 : Hid (MapIs ekU evI wr (w.heap.size + 1) (cntsOf ks)) := by unfold Hid; have := HMr.out; rw [e, List.take_length] at this; exact this
      clear HMr e HG1 hil
      have HBr := Lib.hid hBr; clear hBr
      have hcS2 := (HBS.out.alloc (Obj.cells #[Value.slice none 0 0] 36)).cell
      gi_wp2_with fail
      refine ⟨trivial, (callsIn_wide.2 (All_any sb _)).mono ?_⟩
      rintro e wL ⟨rfl, hwL⟩
      have bO : Boxed wL wr.heap.size 36 (.slice none 0 0) := by rw [hwL]; exact (Boxed.new wr _ _).alloc _
      have bS : wL.heap[wr.heap.size + 1]? = some (.cells #[.pointer (some ⟨sb, 0, none⟩)] 49 (0, 0)) := by
        rw [hwL]; have := hb_new (wr.alloc (.cells #[.slice none 0 0] 36)) (.cells #[.pointer (some ⟨sb, 0, none⟩)] 49); simpa using this
      have hBL : Below wr.heap.size wr wL := by rw [hwL]; exact (((Below.refl _ wr).alloc (Nat.le_refl _) _).alloc (by simp) _)
      have hsL : wL.heap.size = wr.heap.size + 2 := by rw [hwL]; simp
      have hwr : w.heap.size + 1 + 1 < wr.heap.size := HBM.out.lt
      have eb : (wr.alloc (.cells #[.slice none 0 0] 36)).heap.size = wr.heap.size + 1 := by simp
      rw [eb]
      clear hwL eb
      have HWR : Hid (StoreL wr sb log L F) := H.out.below HBr.out
      obtain ⟨f, hf⟩ : ∃ f, goesBy L ks = f := ⟨_, rfl⟩
      have HFF := Lib.hid hf; clear hf
      gi_wp2_with fail
      refine wpIn_rangeFunc_ownG rfl h1 (gf := 66) (lb := #[.pointer (some ⟨wr.heap.size + 1, 0, none⟩)]) rfl trivial (enters_of Try.func66 (by kernel_rfl) rfl)
        (all_stops (n - 1) (by omega) (wr.heap.size + 1) wL bS (HWR.out.below (hBL.mono (Nat.le_refl _))) hL) kpS_t kpS_b (Below.refl _ _) (fun _ => rfl)
        (fun pre W => GoneI wr.heap.size wr.heap.size f pre W ∧ Below wr.heap.size wr W)
        (fun _ _ _ => False)
        (OwnFrom.and (Own.from (gone_own _ _ _) _) (ownFrom_below (Nat.le_refl _) (by omega)))
        (fun _ _ _ _ _ hs _ _ => hs)
        ⟨⟨_, bO, World.ownsRow_nil _ _ _ _, trivial⟩, hBL⟩
        (fun x => { tmps := #[.pointer (some ⟨sb, 0, none⟩), .slice ad ks.length cap, .pointer (some ⟨w.heap.size, 0, none⟩), undef, .int .u64 0, .pointer (some ⟨w.heap.size + 1 + 1, 0, none⟩), undef, u7, .pointer (some ⟨wr.heap.size, 0, none⟩), .int .u64 (x.1.1 : Int), undef, undef, .map (some (w.heap.size + 1)), .slice ad ks.length cap, .int .i64 (ks.length : Int), .int .i64 (i : Int), .bool false, u17, u18, u19, u20, u21, u22, u23, .pointer (some ⟨sb, 0, none⟩), .func (.func 66) #[] #[.pointer (some ⟨wr.heap.size + 1, 0, none⟩)], .int .u64 (x.1.1 : Int), .agg (encH x.2), undef, undef, undef, undef, undef, undef, undef, undef, undef, undef, undef, undef, undef, undef, undef, undef, undef, undef, undef, undef, undef, undef, undef, undef, undef, undef, undef, undef, undef, undef], defers := [] })
        ?assign ?body ?done ?stop
      case assign =>
        intro l x W K hK
        unfold encP
        gi_wp2
        exact hK
      case stop =>
        rintro D c pre W _ _ h _
        exact h.elim
      case body =>
        rintro l pre x W ⟨⟨v, hv, hrow, _⟩, hB⟩ hplt
        have hc := hv.cell
        have bS2 : Boxed W w.heap.size 49 (.pointer (some ⟨sb, 0, none⟩)) := (hB.block _ (by omega)).trans HBS.out
        have bM2 : Boxed W (w.heap.size + 1 + 1) 78 (.map (some (w.heap.size + 1))) := (hB.block _ (by omega)).trans HBM.out
        have hcS3 := bS2.cell
        have hcM3 := bM2.cell
        have hgl := goneBy_le f pre
        have hpl : pre.length ≤ 1000000 := by
          have h2 := liveL_le L
          omega
        have hMW : MapIs ekU evI W (w.heap.size + 1) (cntsOf ks) := HM1.out.same (hB.block _ HM1.out.lt)
        have hlk := look_cnt hMW x.1
        obtain ⟨c, hcc⟩ : ∃ c, cntAt ks x.1 = c := ⟨_, rfl⟩
        rw [hcc] at hlk
        have HCC := Lib.hid hcc; clear hcc hMW
        have hWw : Below w.heap.size w W := HBr.out.trans (hB.mono (by omega))
        have c4W : W.cell? ⟨sb, 4, none⟩ = some (.map (some pm)) := (hWw.cell (p := ⟨sb, 4, none⟩) hsl).trans (cell_of HS.out.cells)
        have hlp := HS.out.look_pin (hWw.block pm HS.out.pin.lt) x.1.1 x.1.2
        obtain ⟨q, hq⟩ : ∃ q, pinsL L x.1.1 = q := ⟨_, rfl⟩
        have hq2 : (saOf log L).pins x.1.1 = q := hq
        rw [hq2] at hlp
        have HQ := Lib.hid hq; clear hq hq2 hWw
        have hfx : Hid (f x.1.1 = (c == 0 && q == 0)) := by
          unfold Hid; rw [← HFF.out]; unfold goesBy
          rw [show mk64 x.1.1 = x.1 from Subtype.ext (mk64_val x.1.2), HCC.out, HQ.out]
        by_cases hc0 : c = 0
        · have hcb : ((c : Int) == 0) = true := by simp [hc0]
          by_cases hq0 : q = 0
          · have hqb : ((q : Int) == 0) = true := by simp [hq0]
            have hxb : f x.1.1 = true := by rw [hfx.out, hc0, hq0]; rfl
            have HXB := Lib.hid hxb; clear hxb hc0 hq0
            gi_wp2_with (gi_at_builtin; refine wpListIn_append_own _ rfl _ _ 36 rfl wr.heap.size 31 i0 (.int .u64 0) 1 8 Try.underlying36 hi hz0 hz1 hz2 rfl (by decide) _ _ _ rfl (hrow.alloc _) ⟨W.heap.size, 0, none⟩ 1 1 [.int .u64 (x.1.1 : Int)] rfl rfl (cell_one_new _ _ _) ?h1 ?h63 ?hbytes ?hbase ?_)
            case h1 => simp [Value.oneCell']
            case h63 => unfold maxLen; omega
            case hbytes => omega
            case hbase => have := hv.lt; simp; omega
            intro v' w1 hown' hgrow _
            obtain ⟨g', cap', rfl⟩ := ownsRow_succ hown'
            obtain ⟨hv1, hv2, hr2, hk2, hb2⟩ := hv.appended (by decide) hrow (by have := hv.lt; omega) (Nat.le_refl _) hown' hgrow
            have hc1 := hv1.cell
            have hf1 := hv1.frozen
            have hKp : KpS W (w1.setCell ⟨wr.heap.size, 0, none⟩ (.slice (some ⟨g', 0, none⟩) ((goneBy f pre).length + 1) cap')) := by
              refine ((KpS.alloc W _).trans (kpS_grown hgrow fun j e => ?_)).trans (kpS_grown (grownBy_setCell' w1 wr.heap.size _) fun j e => ⟨_, _, _, by have := Option.some.inj e; subst this; exact hv1, rfl⟩)
              rcases (hrow.alloc (.cells #[.int .u64 (x.1.1 : Int)] 31)).2 with ⟨rfl, _⟩ | ⟨g, cap, cur, rfl, _, hgb, _⟩
              · simp [Value.ownBlock] at e
              · obtain rfl : g = j := by simpa [Value.ownBlock] using e
                exact ⟨_, _, _, hgb, rfl⟩
            have hG2 : GoneI wr.heap.size wr.heap.size f (pre ++ [x]) (w1.setCell ⟨wr.heap.size, 0, none⟩ (.slice (some ⟨g', 0, none⟩) ((goneBy f pre).length + 1) cap')) := by
              refine ⟨_, hv2, ?_, trivial⟩
              rw [goneBy_hit _ pre HXB.out]; simpa [u64Cells] using hr2
            gi_wp2
            exact ⟨hk2.from _, hKp, hG2, hB.trans hb2⟩
          · have hqb : ((q : Int) == 0) = false := by simpa using hq0
            have HXB := Lib.hid (show f x.1.1 = false by rw [hfx.out, hc0]; simpa using hq0)
            clear hc0 hq0
            gi_wp2_with fail
            refine ⟨KeepsFrom.refl _ _, KpS.refl _, ⟨v, hv, ?_, trivial⟩, hB⟩
            rw [goneBy_miss _ pre HXB.out]; exact hrow
        · have hcb : ((c : Int) == 0) = false := by simpa using hc0
          have HXB := Lib.hid (show f x.1.1 = false by rw [hfx.out]; simp [hc0])
          clear hc0
          gi_wp2_with fail
          refine ⟨KeepsFrom.refl _ _, KpS.refl _, ⟨v, hv, ?_, trivial⟩, hB⟩
          rw [goneBy_miss _ pre HXB.out]; exact hrow
      case done =>
        rintro D ps W hD rfl ⟨⟨v, hv, hrow, _⟩, hB⟩ hK
        have hc := hv.cell
        obtain ⟨ad3, vcap, rfl⟩ := ownsRow_shape hrow
        obtain ⟨gs, hgs⟩ : ∃ gs, goneBy f (liveL L) = gs := ⟨_, rfl⟩
        rw [hgs] at hrow hc hv
        have HGS := Lib.hid hgs; clear hgs
        have hgl : gs.length ≤ 1000000 := by have := goneBy_le f (liveL L); have := liveL_le L; rw [HGS.out] at *; omega
        have HROW := Lib.hid hrow; clear hrow
        have HK := Lib.hid hK; clear hK
        have HSW := Lib.hid (HWR.out.below (hB.mono (Nat.le_refl _)))
        have HV := Lib.hid hv; clear hv
        have hWw := Lib.hid (HBr.out.trans (hB.mono (by omega : w.heap.size ≤ wr.heap.size)))
        have bS2 : Boxed W w.heap.size 49 (.pointer (some ⟨sb, 0, none⟩)) := (hB.block _ (by omega)).trans HBS.out
        have HBS2 := Lib.hid bS2; clear bS2
        obtain ⟨wo, hwo⟩ : ∃ x, x = wr := ⟨_, rfl⟩
        subst hwo
        obtain ⟨io, hio⟩ : ∃ x, x = i := ⟨_, rfl⟩
        subst hio
        gi_wp2_with fail
        gi_loopg [47] (gs.length) (fun g vi wk => ∃ i, vi = .int .i64 (i : Nat) ∧ g + i = gs.length ∧ StoreL wk sb log (killL L ((gs.take i).map (·.1))) F ∧ Fr F W wk)
        case atStart => exact ⟨0, rfl, by simp, by simp [killL_nil]; exact HSW.out, Fr.refl _ _⟩
        case round =>
          obtain ⟨i2, rfl, hg1, hSk, hFk⟩ := hrel
          have HG1 := Lib.hid hg1; clear hg1
          have HSk := Lib.hid hSk; clear hSk
          have HFk := Lib.hid hFk; clear hFk
          by_cases hil2 : i2 < gs.length
          · have hil3 : (i2 : Int) < (gs.length : Int) := by omega
            obtain ⟨g, rfl⟩ := ownsRow_pos HROW.out (by omega)
            obtain ⟨p, hp⟩ : ∃ p, gs[i2]? = some p := ⟨gs[i2], List.getElem?_eq_getElem hil2⟩
            have HP := Lib.hid hp; clear hp
            obtain ⟨g', cap', cur, he, hbg, hcg, hci⟩ := row_at HROW.out HP.out
            obtain rfl : g = g' := by simp at he; exact he.1
            have ck : wr.cell? ⟨g, i2, none⟩ = some (.int .u64 (p.1 : Int)) :=
              (cell_of ((HFk.out.block g (hb_lt hcg) (fun hf => by have := HS.out.lt g hf; omega)).trans hcg)).trans hci
            have hcS4 : wr.cell? ⟨w.heap.size, 0, none⟩ = some (.pointer (some ⟨sb, 0, none⟩)) :=
              cell_of ((HFk.out.block w.heap.size HBS2.out.lt (fun hf => by have := HS.out.lt _ hf; omega)).trans HBS2.out)
            have hmem := (mem_goneBy hL f p.1).1 (by rw [HGS.out]; exact List.mem_map_of_mem (List.mem_of_getElem? HP.out))
            obtain ⟨_, y, hy⟩ := hmem
            have hnt : p.1 ∉ (gs.take i2).map (·.1) := by
              have h1 := sorted_goneBy hL f
              rw [HGS.out] at h1
              have := not_mem_take h1 (i := i2) (p := p.1) (by rw [List.getElem?_map, HP.out]; rfl)
              rwa [← List.map_take] at this
            have HY := Lib.hid hy; clear hy
            clear he hci
            gi_wp2_with fail
            refine ⟨trivial, (callsIn_wide.2 (kill_next HSk.out p.1 HY.out hnt hL)).mono ?_⟩
            rintro e w5 ⟨rfl, hS5, hF5⟩
            have HS5 := Lib.hid hS5; clear hS5
            have HF5 := Lib.hid hF5; clear hF5
            gi_wp2_with fail
            gi_roundg (gk - 1)
            case measure => have := HG1.out; omega
            case rel =>
              refine ⟨i2 + 1, by simp, by have := HG1.out; omega, ?_, HFk.out.trans HF5.out (fun _ h => h) (fun _ _ h => h)⟩
              rw [List.take_add_one, HP.out, List.map_append]; exact HS5.out
          · have hil3 : ¬ (i2 : Int) < (gs.length : Int) := by omega
            have e : i2 = gs.length := by have := HG1.out; omega
            have hDs : W.heap.size > D := hb_lt HK.out
            have hlo : w.heap.size ≤ D := by have := HBS.out.lt; omega
            have HKR := Lib.hid (show wr.heap[D]? = some (.deferred (some [])) from (HFk.out.block D hDs (fun hf => by have := HS.out.lt _ hf; omega)).trans HK.out)
            have hct : wr.cell? ⟨wo.heap.size, 0, none⟩ = some (.slice ad3 gs.length vcap) :=
              cell_of ((HFk.out.block wo.heap.size HV.out.lt (fun hf => by have := HS.out.lt _ hf; omega)).trans HV.out)
            have hwg : IntKind.u64.wrap (gs.length : Int) = (gs.length : Int) := by simp only [IntKind.wrap_u64]; omega
            have HE2 := Lib.hid e; clear e
            gi_wp2_with fail
            refine ⟨by simp, .inl ⟨_, _, rfl, run_takeDeferred HKR.out, ?_⟩⟩
            refine ⟨_, results_tmp rfl _ _ _, ?_⟩
            have hfin : Fr F w wr := (Fr.of_below (S := F) hWw.out).trans HFk.out (fun _ h => h) (fun _ _ h => h)
            have eG : sweepG L ks = gs := by unfold sweepG; rw [HFF.out, HGS.out]
            refine ⟨by rw [eG]; rfl, ?_, hfin.putObj D _ hlo⟩
            have h5 := HSk.out
            rw [HE2.out, List.take_length, ← eG] at h5
            exact h5.kept (by simp) (fun j hj => World.putObj_heap_other (fun e => by have := HS.out.lt j hj; omega))
theorem Sweep_any {w : World} {sb log : Nat} {L : List NL} {F : Nat → Prop} (h : StoreL w sb log L F) (v : Value) (ks : List U64) (hr : NumRow w v ks) (hks : ks.length ≤ 1000000) (hL : L.length ≤ 1000000) :
    Calls Try.prog 26 #[.pointer (some ⟨sb, 0, none⟩), v] w fun e w' => e = .returned (.int .u64 ((sweepG L ks).length : Int)) ∧ StoreL w' sb log (sweepL L ks) F ∧ Fr F w w' :=
  callsIn_wide.1 (Sweep_in 5 (by omega) h v ks hr hks hL)
end Go.Proofs.Ytoigddekipjkcaa
