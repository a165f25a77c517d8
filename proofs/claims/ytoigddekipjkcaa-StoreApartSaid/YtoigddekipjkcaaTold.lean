/- massiflaw5.told. -/
import Derived.Test.YtoigddekipjkcaaPair
import Derived.Test.YtoigddekipjkcaaCut
import Derived.Test.YtoigddekipjkcaaCalmIn
namespace Go.Proofs.Ytoigddekipjkcaa
set_option linter.all false
open Go Go.RowKit Go.Proofs Go.Maps Go.Shelf
open Go.ChangeMaps (setBlock)
attribute [local go_sem] Oper.semAt_some
theorem nilFunc_eq (b : Nat) (W : World) : (binOp BinOp.eql 82 (.func (.func 66) #[] #[.pointer (some ⟨b, 0, none⟩)]) Value.nilFunc).run Try.prog W = .ok (.bool false) W := by kernel_rfl
theorem results_bool {fn : Func} {t : Tmp} (hf : fn.results = #[.cell t 4]) (tmps : Array Value) (w : World) {a : Addr} {b : Bool}
    (ht : tmps.getD t undef = .pointer (some a)) (hc : w.cell? a = some (.bool b)) : (results fn tmps).run Try.prog w = .ok (.bool b) w := by
  have ht' : tmps[t]?.getD undef = .pointer (some a) := by simpa using ht
  have h1 : (isAgg 4).run Try.prog w = .ok false w := by kernel_rfl
  have hl : (loadVar 4 a).run Try.prog w = .ok (.bool b) w := by
    unfold loadVar
    simp [go_sem, h1, hc]
  simp [results, hf, ht', asAddr, hl]
theorem keepsFrom_below {A B : World} (h : Below A.heap.size A B) (b : Nat) : KeepsFrom b A B := ⟨h.size, fun k o _ hk _ => (h.block k (hb_lt hk)).trans hk⟩
theorem told_end {w W : World} {a b : Nat} (h : Below w.heap.size w W) (ha : w.heap.size ≤ a) (hb : w.heap.size ≤ b) (v : Value) (o : Obj) : Below w.heap.size w ((W.setCell ⟨a, 0, none⟩ v).putObj b o) :=
  ⟨h.os, h.tape, h.output, by simp; exact h.size, fun k hk => (World.putObj_heap_other (by omega)).trans ((Below.heap_setCell _ _ _ k (by show k ≠ a; omega)).trans (h.block k hk))⟩
/-- Between the rounds: so many have been told, as they are. -/
def TI' (wR : World) (B : Nat) (P : List PH) (pre : List PH) (W : World) : Prop :=
  Boxed W (B + 2) 3 (.int .i64 (pre.length : Int)) ∧ Below (B + 2) wR W ∧ pre <+: P
def TI (wR : World) (B stop : Nat) (P : List PH) (pre : List PH) (W : World) : Prop :=
  TI' wR B P pre W ∧ (stop = 0 ∨ pre.length < stop)
theorem TI'_own (wR : World) (B : Nat) (P : List PH) (b : Nat) (hs : wR.heap.size = B + 3) (hb : B + 3 ≤ b) : OwnFrom b (TI' wR B P) := fun s A B' row h hg hr =>
  ⟨h.1.kept hg (fun e => by obtain ⟨h1, _⟩ := hr _ e.symm; omega), h.2.1.grown hg (by have := h.2.1.size; omega) (fun k e => by obtain ⟨h1, _⟩ := hr k e; omega), h.2.2⟩
theorem TI_own (wR : World) (B stop : Nat) (P : List PH) (b : Nat) (hs : wR.heap.size = B + 3) (hb : B + 3 ≤ b) : OwnFrom b (TI wR B stop P) := fun s A B' row h hg hr =>
  ⟨TI'_own wR B P b hs hb s A B' row h.1 hg hr, h.2⟩
theorem callsIn_name {Fc : Fence} {m : Nat} {P : Program} {f : FuncId} {args : Array Value} {R : Ending → World → Prop} {w : World} (h : ∀ W, Hid (W = w) → CallsIn Fc m P f args W R) : CallsIn Fc m P f args w R := h w rfl
set_option maxRecDepth 100000 in
set_option maxHeartbeats 1000000 in
theorem told_in (m : Nat) (hm : 5 ≤ m) {w : World} {sb rb log n : Nat} {L : List NL} {F G : Nat → Prop} (h : Pair w sb rb log L F G n) (stop : Nat) (hs : stop ≤ 1000) :
    CallsIn Fence.wide m Try.prog 61 #[.pointer (some ⟨sb, 0, none⟩), .pointer (some ⟨rb, 0, none⟩), .int .i64 (stop : Int)] w fun e w' => e = .returned (.bool true) ∧ Below w.heap.size w w' := by
  have h1 : 1 ≤ m := by omega
  have HL := Lib.hid h.lenLe
  have H := Lib.hid h; clear h
  refine callsIn_of_wp_marks Try.func61 rfl trivial ?_ rfl
  simp only [Try.ntmps61, List.size_toArray, List.length_cons, List.length_nil, Nat.reduceAdd, Nat.reduceSub, Array.replicate_succ, Array.replicate_zero, List.push_toArray, List.append_toArray, List.nil_append, List.cons_append]
  gi_wp2_with fail
  refine ⟨trivial, ?_⟩
  refine callsIn_name fun W1 HW1 => ?_
  have hb1 : Hid (Below w.heap.size w W1) := by
    unfold Hid; rw [HW1.out]; exact (((Below.refl _ w).alloc (Nat.le_refl _) _).alloc (by simp) _).alloc (by simp; omega) _
  have hR1 : Hid (Boxed W1 w.heap.size 60 (.pointer (some ⟨rb, 0, none⟩))) := by
    unfold Hid; rw [HW1.out]; exact ((Boxed.new w _ _).alloc _).alloc _
  have hS1 : Hid (Boxed W1 (w.heap.size + 1) 3 (.int .i64 (stop : Int))) := by
    unfold Hid; rw [HW1.out]
    have := Boxed.new (w.alloc (Obj.cells #[Value.pointer (some { block := rb, off := 0 })] 60)) 3 (.int .i64 (stop : Int))
    exact (by simpa using this : Boxed _ (w.heap.size + 1) _ _).alloc _
  have hO1 : Hid (Boxed W1 (w.heap.size + 1 + 1) 4 (.bool false)) := by
    unfold Hid; rw [HW1.out]
    have := Boxed.new ((w.alloc (Obj.cells #[Value.pointer (some { block := rb, off := 0 })] 60)).alloc (Obj.cells #[Value.int IntKind.i64 (stop : Int)] 3)) 4 (.bool false)
    simpa using this
  clear HW1
  refine (callsIn_wide.2 (RPlaces_any (H.out.rf.below hb1.out) HL.out)).mono ?_
  rintro e w2 ⟨v, rfl, hown, hb2⟩
  rw [List.length_map] at hown
  obtain ⟨P, hP⟩ : ∃ P, liveL L = P := ⟨_, rfl⟩
  rw [hP] at hown
  have HP := Lib.hid hP; clear hP
  obtain ⟨adw, capw, rfl⟩ := ownsRow_shape hown
  have HOW := Lib.hid hown; clear hown
  gi_wp2_with fail
  refine ⟨trivial, (callsIn_wide.2 (All_any sb _)).mono ?_⟩
  rintro e wL ⟨rfl, hwL⟩
  have bW : Hid (Boxed wL w2.heap.size 36 (.slice adw P.length capw)) := by unfold Hid; rw [hwL]; exact (Boxed.new w2 _ _).alloc _
  have bS : Hid (wL.heap[w2.heap.size + 1]? = some (.cells #[.pointer (some ⟨sb, 0, none⟩)] 49 (0, 0))) := by
    unfold Hid; rw [hwL]; have := hb_new (w2.alloc (.cells #[.slice adw P.length capw] 36)) (.cells #[.pointer (some ⟨sb, 0, none⟩)] 49); simpa using this
  have hBL : Hid (Below w2.heap.size w2 wL) := by unfold Hid; rw [hwL]; exact (((Below.refl _ w2).alloc (Nat.le_refl _) _).alloc (by simp) _)
  have hsL : wL.heap.size = w2.heap.size + 2 := by rw [hwL]; simp
  have eb : (w2.alloc (.cells #[.slice adw P.length capw] 36)).heap.size = w2.heap.size + 1 := by simp
  rw [eb]
  clear hwL eb
  have hnf := nilFunc_eq (w2.heap.size + 1) wL
  gi_wp2_with fail
  obtain ⟨wR, hwR⟩ : ∃ wR, wR = wL.alloc (.cells #[.int .i64 0] 3) := ⟨_, rfl⟩
  rw [← hwR]
  have bK0 : Hid (Boxed wR (w2.heap.size + 2) 3 (.int .i64 0)) := by
    unfold Hid; rw [hwR, ← hsL]; exact Boxed.new wL _ _
  have hLR : Hid (Below wL.heap.size wL wR) := by unfold Hid; rw [hwR]; exact (Below.refl _ wL).alloc (Nat.le_refl _) _
  have hsR : wR.heap.size = w2.heap.size + 3 := by rw [hwR]; simp [hsL]
  clear hwR hnf
  have hSS : Hid (StoreL wR sb log L F) := ((H.out.below hb1.out).st.below hb2 |>.below hBL.out).below hLR.out
  have hBS : Hid (wR.heap[w2.heap.size + 1]? = some (.cells #[.pointer (some ⟨sb, 0, none⟩)] 49 (0, 0))) := (hLR.out.block _ (hb_lt bS.out)).trans bS.out
  have hwR : Hid (Below w.heap.size w wR) := ((hb1.out.trans (hb2.mono hb1.out.size)).trans (hBL.out.mono (by have := hb1.out.size; have := hb2.size; omega))).trans (hLR.out.mono (by have := hb1.out.size; have := hb2.size; omega))
  have h12 : W1.heap.size ≤ w2.heap.size := hb2.size
  have h01 : w.heap.size + 1 + 1 < W1.heap.size := hO1.out.lt
  have hRb : Hid (RefAt wR rb log L G) := H.out.rf.below hwR.out
  have HIN : ∀ (pre : List PH) (W : World), TI wR w2.heap.size stop P pre W → TI wR w2.heap.size stop P pre W := fun _ _ h => h
  clear HIN
  refine wpIn_rangeFunc_ownH rfl h1 (gf := 66) (lb := #[.pointer (some ⟨w2.heap.size + 1, 0, none⟩)]) rfl trivial (enters_of Try.func66 (by kernel_rfl) rfl)
    (all_stops (m - 1) (by omega) (w2.heap.size + 1) wR hBS.out hSS.out HL.out) kpS_t kpS_b (Below.refl _ _) (fun _ => rfl)
    (TI wR w2.heap.size stop P)
    (fun c pre W => (c = Code.exit 0 ∧ TI' wR w2.heap.size P pre W ∧ pre.length = stop ∧ 0 < stop) ∨ (c = Code.ret ∧ ¬ pre <+: P))
    (TI_own wR w2.heap.size stop P _ hsR (by omega))
    (fun c s A B row hs hg hr => hs.imp (fun ⟨a, b, c⟩ => ⟨a, TI'_own wR w2.heap.size P _ hsR (by omega) s A B row b hg hr, c⟩) id)
    ⟨⟨bK0.out, Below.refl _ _, List.nil_prefix⟩, by simp; omega⟩
    (fun x a' W => ∃ b, W.heap[b]? = some (.cells (encH x.2) 30 (0, 0)) ∧ a' = { tmps := #[.pointer (some ⟨sb, 0, none⟩), .pointer (some ⟨rb, 0, none⟩), .int .i64 (stop : Int), undef, .pointer (some ⟨w.heap.size, 0, none⟩), .pointer (some ⟨w.heap.size + 1, 0, none⟩), .pointer (some ⟨w.heap.size + 1 + 1, 0, none⟩), .pointer (some ⟨w2.heap.size, 0, none⟩), .func (.func 66) #[] #[.pointer (some ⟨w2.heap.size + 1, 0, none⟩)], .pointer (some ⟨w2.heap.size + 2, 0, none⟩), .int .u64 (x.1.1 : Int), .pointer (some ⟨b, 0, none⟩), .pointer (some ⟨rb, 0, none⟩), .slice adw P.length capw, .pointer (some ⟨sb, 0, none⟩), .func (.func 66) #[] #[.pointer (some ⟨w2.heap.size + 1, 0, none⟩)], .func (.func 66) #[] #[.pointer (some ⟨w2.heap.size + 1, 0, none⟩)], .bool false, .func (.func 66) #[] #[.pointer (some ⟨w2.heap.size + 1, 0, none⟩)], .int .u64 (x.1.1 : Int), .agg (encH x.2), undef, undef, undef, undef, undef, undef, undef, undef, undef, undef, undef, undef, undef, undef, undef, undef, undef, undef, undef, undef, undef, undef, undef, undef, undef, undef, undef, undef, undef, undef, undef, undef, undef, undef, undef, undef, undef, undef, undef, undef, undef, undef, undef, undef], defers := [] })
    ?hAx ?assign ?body ?done ?stop
  case hAx =>
    intro x a' s A B row hs hg hr
    obtain ⟨b, hb, e⟩ := hs
    refine ⟨b, (hg.block b (hb_lt hb) (fun e => ?_)).trans hb, e⟩
    obtain ⟨_, o, ho, hc⟩ := hr b e.symm
    rw [hb] at ho; cases ho; cases hc
  case assign =>
    intro l pre x W K hi hK
    unfold encP
    gi_wp2
    have hb : Below W.heap.size W (putRow (W.alloc (Obj.cells (encH zH) 30)) ⟨W.heap.size, 0, none⟩ (encH x.2).toList) := below_putRow ((Below.refl _ W).alloc (Nat.le_refl _) _) (Nat.le_refl _) _
    refine hK _ _ (keepsFrom_below hb _) (KpS.below hb) ⟨⟨(hb.block _ hi.1.1.lt).trans hi.1.1, hi.1.2.1.trans (hb.mono (by have := hi.1.2.1.size; omega)), hi.1.2.2⟩, hi.2⟩ ⟨W.heap.size, ?_, rfl⟩
    rw [hb_putRow_same (hb_new W _)]
    congr 2
    apply Array.ext'
    simp [splice, size_encH]
  case body =>
    rintro l pre x a' W hlb _ ⟨⟨hk, hB, hpre⟩, hst⟩ ⟨b, hb, rfl⟩ hplt
    rw [HP.out] at hplt
    have hkc := hk.cell
    have hkf := hk.frozen
    have hBW : Below w2.heap.size w2 W := hBL.out.trans ((hLR.out.mono (by omega)).trans (hB.mono (by omega)))
    have hB1 : Below W1.heap.size W1 W := hb2.trans (hBW.mono h12)
    have bR : Boxed W w.heap.size 60 (.pointer (some ⟨rb, 0, none⟩)) := (hB1.block _ (by omega)).trans hR1.out
    have bS5 : Boxed W (w.heap.size + 1) 3 (.int .i64 (stop : Int)) := (hB1.block _ (by omega)).trans hS1.out
    have bO : Boxed W (w.heap.size + 1 + 1) 4 (.bool false) := (hB1.block _ (by omega)).trans hO1.out
    have bWW : Boxed W w2.heap.size 36 (.slice adw P.length capw) := (hB.block _ (by omega)).trans ((hLR.out.block _ (by omega)).trans bW.out)
    have hRc := bR.cell
    have hSc := bS5.cell
    have hOc := bO.cell
    have hOf := bO.frozen
    have hWc := bWW.cell
    have hbx : rowAt W ⟨b, 0, none⟩ 32 = some (encH x.2) := rowAt_whole hb (size_encH _).symm
    have hgt : Try.prog.eqGuardType Try.prog.depth 30 = false := by kernel_rfl
    have hPl : P.length ≤ 1000000 := by rw [← HP.out]; have := liveL_le L; have := HL.out; omega
    obtain ⟨y, hy⟩ : ∃ y, P[pre.length]? = some y := ⟨P[pre.length], List.getElem?_eq_getElem hplt⟩
    obtain ⟨k, hkn⟩ : ∃ k, pre.length = k := ⟨_, rfl⟩
    rw [hkn] at hkc hplt hy hst
    have HK := Lib.hid hk; clear hk
    have hkl : (k : Int) < (P.length : Int) := by omega
    have hrowW : NumRow W (.slice adw P.length capw) (P.map (·.1)) := by
      have h0 := HOW.out
      have h1 : NumRow w2 (.slice adw (P.map (·.1)).length capw) (P.map (·.1)) := NumRow.of_own (base := W1.heap.size) (by rw [List.length_map]; exact h0)
      rw [List.length_map] at h1
      exact h1.below hBW
    obtain ⟨ad3, cap3, e2, hrow⟩ := hrowW
    obtain ⟨bb, o, e3, hck⟩ := hrow k y.1 (by rw [List.getElem?_map, hy]; rfl)
    rw [List.length_map] at e2
    obtain ⟨rfl, rfl⟩ : ad3 = adw ∧ cap3 = capw := by simp at e2; exact ⟨e2.1.symm, e2.2.symm⟩
    clear hrow e2
    subst e3
    have HY := Lib.hid hy; clear hy
    have HKN := Lib.hid hkn; clear hkn
    have HPRE := Lib.hid hpre; clear hpre
    have hlive : y ∈ liveL L := by rw [HP.out]; exact List.mem_of_getElem? HY.out
    obtain ⟨p, hp1, hp2⟩ := mem_liveL.1 hlive
    have hpl := live_lt hp1
    have hLl := HL.out
    have hyp : y.1.1 = p := by rw [hp2, mk64_val (by omega)]
    obtain ⟨q, hq⟩ : ∃ q, L[p]? = some (some y.2, q) := by
      cases hx : L[p]? with
      | none => rw [hx] at hp1; simp at hp1
      | some z => rw [hx] at hp1; exact ⟨z.2, by have : z.1 = some y.2 := hp1; rw [← this]⟩
    have hRW : RefAt W rb log L G := hRb.out.kept hB.size (fun j hj => hB.block j (by have := H.out.rf.lt j hj; omega))
    obtain ⟨g, cap5, cur, N⟩ := hRW.node hq
    have c1 : W.cell? ⟨rb, 1, none⟩ = some (.slice (some ⟨g, 0, none⟩) L.length cap5) := cell_of N.own
    have hh := N.hash
    simp only [Option.getD_some] at hh
    have hpL : (p : Int) < (L.length : Int) := by omega
    clear N hq hp1 hp2 hlive hpl
    by_cases hx1 : x.1 = y.1
    · have ex1 : (x.1.1 : Int) = (p : Int) := by rw [hx1, hyp]
      have ey1 : (y.1.1 : Int) = (p : Int) := by rw [hyp]
      rw [ey1] at hck
      rw [ex1]
      by_cases hx2 : x.2 = y.2
      · have hd : decide (x.2 = y.2) = true := decide_eq_true hx2
        have hxy : Hid (x = y) := by
          have : x = (x.1, x.2) := rfl
          unfold Hid; rw [this, hx1, hx2]
        clear hx2 hx1
        have hpre2 : Hid (pre ++ [x] <+: P) := by
          unfold Hid
          obtain ⟨t, ht⟩ := HPRE.out
          have h3 := HY.out
          rw [← ht, List.getElem?_append_right (by rw [HKN.out]; omega), HKN.out, Nat.sub_self] at h3
          cases t with
          | nil => simp at h3
          | cons z t =>
            simp at h3
            refine ⟨t, ?_⟩
            rw [hxy.out, ← h3, ← ht]; simp
        have hlen2 : Hid ((pre ++ [x]).length = k + 1) := by unfold Hid; rw [List.length_append, HKN.out]; rfl
        by_cases hks : k + 1 = stop
        · have hkb : ((k : Int) + 1 == (stop : Int)) = true := by simp; omega
          have HKS := Lib.hid hks; clear hks
          gi_wp2_with fail
          have hgeq : decide (P.length ≤ k) = false := decide_eq_false (by omega)
          refine wpIn_region_drawn (loose_round _ _ _) (by kernel_rfl) (by kernel_rfl) (by kernel_rfl) ?_
          repeat (go_big_quiet_step (fail))
          refine wpQuiet_nil ?_
          rintro _ ⟨nq, rfl⟩
          gi_wp2_with fail
          have hB' : Below (w2.heap.size + 2) wR (W.drewN nq) := ⟨hB.os, hB.tape, hB.output, hB.size, hB.block⟩
          have hKS := (KeepsOthers.setCell (W.drewN nq) ⟨w2.heap.size + 2, 0, none⟩ (.int .i64 ((k : Int) + 1))).from wR.heap.size
          have hBx : Boxed ((W.drewN nq).setCell ⟨w2.heap.size + 2, 0, none⟩ (.int .i64 ((k : Int) + 1))) (w2.heap.size + 2) 3 (.int .i64 ((pre ++ [x]).length : Int)) := by
            rw [hlen2.out, show ((k + 1 : Nat) : Int) = (k : Int) + 1 by simp]
            have := hb_setCell_same (i := 0) (hb_drewN HK.out nq) (.int .i64 ((k : Int) + 1))
            unfold Boxed
            simpa using this
          have hBw : Below (w2.heap.size + 2) wR ((W.drewN nq).setCell ⟨w2.heap.size + 2, 0, none⟩ (.int .i64 ((k : Int) + 1))) := hB'.grown (grownBy_setCell' _ _ _) (by have := hB.size; simp; omega) (fun j e => by cases e; exact Nat.le_refl _)
          exact ⟨⟨hKS.size, hKS.same⟩, .inl ⟨rfl, ⟨hBx, hBw, hpre2.out⟩, by rw [hlen2.out]; exact HKS.out, by have := HKS.out; omega⟩⟩
        · have hkb : ((k : Int) + 1 == (stop : Int)) = false := by simp; omega
          have HKS := Lib.hid hks; clear hks
          gi_wp2_with fail
          have hgeq : decide (P.length ≤ k) = false := decide_eq_false (by omega)
          refine wpIn_region_drawn (loose_round _ _ _) (by kernel_rfl) (by kernel_rfl) (by kernel_rfl) ?_
          repeat (go_big_quiet_step (fail))
          refine wpQuiet_nil ?_
          rintro _ ⟨nq, rfl⟩
          gi_wp2_with fail
          have hB' : Below (w2.heap.size + 2) wR (W.drewN nq) := ⟨hB.os, hB.tape, hB.output, hB.size, hB.block⟩
          have hKS := (KeepsOthers.setCell (W.drewN nq) ⟨w2.heap.size + 2, 0, none⟩ (.int .i64 ((k : Int) + 1))).from wR.heap.size
          have hBx : Boxed ((W.drewN nq).setCell ⟨w2.heap.size + 2, 0, none⟩ (.int .i64 ((k : Int) + 1))) (w2.heap.size + 2) 3 (.int .i64 ((pre ++ [x]).length : Int)) := by
            rw [hlen2.out, show ((k + 1 : Nat) : Int) = (k : Int) + 1 by simp]
            have := hb_setCell_same (i := 0) (hb_drewN HK.out nq) (.int .i64 ((k : Int) + 1))
            unfold Boxed
            simpa using this
          have hBw : Below (w2.heap.size + 2) wR ((W.drewN nq).setCell ⟨w2.heap.size + 2, 0, none⟩ (.int .i64 ((k : Int) + 1))) := hB'.grown (grownBy_setCell' _ _ _) (by have := hB.size; simp; omega) (fun j e => by cases e; exact Nat.le_refl _)
          have hKp : KpS (W.drewN nq) ((W.drewN nq).setCell ⟨w2.heap.size + 2, 0, none⟩ (.int .i64 ((k : Int) + 1))) := kpS_grown (grownBy_setCell' _ _ _) fun j e => ⟨_, _, _, by have := Option.some.inj e; subst this; exact hb_drewN HK.out nq, rfl⟩
          exact ⟨⟨hKS.size, hKS.same⟩, ⟨hKp.1, hKp.2⟩, ⟨⟨hBx, hBw, hpre2.out⟩, by rw [hlen2.out]; have := HKS.out; omega⟩⟩
      · have hd : decide (x.2 = y.2) = false := decide_eq_false hx2
        have HNP : Hid (¬ (pre ++ [x]) <+: P) := by
          rintro ⟨t, ht⟩
          have h3 := HY.out
          rw [← ht, List.append_assoc, List.getElem?_append_right (by rw [HKN.out]; omega), HKN.out, Nat.sub_self] at h3
          simp at h3
          exact hx2 (by rw [h3])
        clear hx2 hx1
        gi_wp2_with fail
        have hgeq : decide (P.length ≤ k) = false := decide_eq_false (by omega)
        refine wpIn_region_drawn (loose_round _ _ _) (by kernel_rfl) (by kernel_rfl) (by kernel_rfl) ?_
        repeat (go_big_quiet_step (fail))
        refine wpQuiet_nil ?_
        rintro _ ⟨nq, rfl⟩
        gi_wp2_with fail
        have hKS := (KeepsOthers.setCell (W.drewN nq) ⟨w.heap.size + 1 + 1, 0, none⟩ (.bool false)).from wR.heap.size
        exact ⟨⟨hKS.size, hKS.same⟩, .inr ⟨rfl, HNP.out⟩⟩
    · have HNP : Hid (¬ (pre ++ [x]) <+: P) := by
        rintro ⟨t, ht⟩
        have h3 := HY.out
        rw [← ht, List.append_assoc, List.getElem?_append_right (by rw [HKN.out]; omega), HKN.out, Nat.sub_self] at h3
        simp at h3
        exact hx1 (by rw [h3])
      have hxn : ((x.1.1 : Int) != (p : Int)) = true := by
        simp only [bne_iff_ne, ne_eq]
        exact fun e => hx1 (Subtype.ext (by omega))
      clear hx1
      gi_wp2_with fail
      have hgeq : decide (P.length ≤ k) = false := decide_eq_false (by omega)
      refine wpIn_region_drawn (loose_round _ _ _) (by kernel_rfl) (by kernel_rfl) (by kernel_rfl) ?_
      repeat (go_big_quiet_step (fail))
      refine wpQuiet_nil ?_
      rintro _ ⟨nq, rfl⟩
      gi_wp2_with fail
      have hKS := (KeepsOthers.setCell (W.drewN nq) ⟨w.heap.size + 1 + 1, 0, none⟩ (.bool false)).from wR.heap.size
      exact ⟨⟨hKS.size, hKS.same⟩, .inr ⟨rfl, HNP.out⟩⟩
  case done =>
    rintro D xs W hD hxs ⟨⟨hk, hB, hpre⟩, hst⟩ hDW
    rw [HP.out] at hxs
    subst hxs
    have hBW : Below w2.heap.size w2 W := hBL.out.trans ((hLR.out.mono (by omega)).trans (hB.mono (by omega)))
    have hB1 : Below W1.heap.size W1 W := hb2.trans (hBW.mono h12)
    have hBwW : Below w.heap.size w W := hwR.out.trans (hB.mono (by omega))
    have bS5 : Boxed W (w.heap.size + 1) 3 (.int .i64 (stop : Int)) := (hB1.block _ (by omega)).trans hS1.out
    have bO : Boxed W (w.heap.size + 1 + 1) 4 (.bool false) := (hB1.block _ (by omega)).trans hO1.out
    have bWW : Boxed W w2.heap.size 36 (.slice adw xs.length capw) := (hB.block _ (by omega)).trans ((hLR.out.block _ (by omega)).trans bW.out)
    have hkc := hk.cell
    have hSc := bS5.cell
    have hOc := bO.cell
    have hOf := bO.frozen
    have hWc := bWW.cell
    have HO := Lib.hid bO; clear bO
    have HDW := Lib.hid hDW; clear hDW
    have hPl : xs.length ≤ 1000000 := by rw [← HP.out]; have := liveL_le L; have := HL.out; omega
    by_cases hs0 : stop = 0
    · subst hs0
      gi_wp2_with fail
      have hc9 := cell_of (i := 0) (hb_setCell_same (i := 0) HO.out (.bool true))
      have hDs : W.heap.size > D := hb_lt HDW.out
      have hne9 : D ≠ w.heap.size + 1 + 1 := by have := hBL.out.size; omega
      have HDR := Lib.hid (show (W.setCell ⟨w.heap.size + 1 + 1, 0, none⟩ (.bool true)).heap[D]? = some (.deferred (some [])) from (Below.heap_setCell _ _ _ D hne9).trans HDW.out)
      refine ⟨by simp, .inl ⟨_, _, rfl, run_takeDeferred HDR.out, ?_⟩⟩
      refine ⟨_, results_bool rfl _ _ rfl (b := true) ?_, rfl, ?_⟩
      · refine (cell_block (a := ⟨w.heap.size + 1 + 1, 0, none⟩) (World.putObj_heap_other (fun e => hne9 e.symm))).trans (hc9.trans ?_)
        simp
      · exact told_end hBwW (by omega) (by omega) _ _
    · have hsp : (0 : Int) < (stop : Int) := by omega
      have hsl : ¬ (stop : Int) < (xs.length : Int) := by omega
      gi_wp2_with fail
      have hc9 := cell_of (i := 0) (hb_setCell_same (i := 0) HO.out (.bool true))
      have hDs : W.heap.size > D := hb_lt HDW.out
      have hne9 : D ≠ w.heap.size + 1 + 1 := by have := hBL.out.size; omega
      have HDR := Lib.hid (show (W.setCell ⟨w.heap.size + 1 + 1, 0, none⟩ (.bool true)).heap[D]? = some (.deferred (some [])) from (Below.heap_setCell _ _ _ D hne9).trans HDW.out)
      refine ⟨by simp, .inl ⟨_, _, rfl, run_takeDeferred HDR.out, ?_⟩⟩
      refine ⟨_, results_bool rfl _ _ rfl (b := true) ?_, rfl, ?_⟩
      · refine (cell_block (a := ⟨w.heap.size + 1 + 1, 0, none⟩) (World.putObj_heap_other (fun e => hne9 e.symm))).trans (hc9.trans ?_)
        simp
      · exact told_end hBwW (by omega) (by omega) _ _
  case stop =>
    rintro D c pre W hD hsp hx hDW
    rw [HP.out] at hsp
    rcases hx with ⟨rfl, ⟨hk, hB, hpre⟩, hlen, hspos⟩ | ⟨rfl, hn⟩
    · have hBW : Below w2.heap.size w2 W := hBL.out.trans ((hLR.out.mono (by omega)).trans (hB.mono (by omega)))
      have hB1 : Below W1.heap.size W1 W := hb2.trans (hBW.mono h12)
      have hBwW : Below w.heap.size w W := hwR.out.trans (hB.mono (by omega))
      have bS5 : Boxed W (w.heap.size + 1) 3 (.int .i64 (stop : Int)) := (hB1.block _ (by omega)).trans hS1.out
      have bO : Boxed W (w.heap.size + 1 + 1) 4 (.bool false) := (hB1.block _ (by omega)).trans hO1.out
      have bWW : Boxed W w2.heap.size 36 (.slice adw P.length capw) := (hB.block _ (by omega)).trans ((hLR.out.block _ (by omega)).trans bW.out)
      rw [hlen] at hk
      have hkc := hk.cell
      have hSc := bS5.cell
      have hOc := bO.cell
      have hOf := bO.frozen
      have hWc := bWW.cell
      have HO := Lib.hid bO; clear bO
      have HDW := Lib.hid hDW; clear hDW
      have hle := hpre.length_le
      rw [hlen] at hle
      have hPl : P.length ≤ 1000000 := by rw [← HP.out]; have := liveL_le L; have := HL.out; omega
      by_cases hs0 : stop = 0
      · omega
      · have hsp2 : (0 : Int) < (stop : Int) := by omega
        by_cases hsl : stop < P.length
        · have hsl2 : (stop : Int) < (P.length : Int) := by omega
          gi_wp2_with fail
          have hc9 := cell_of (i := 0) (hb_setCell_same (i := 0) HO.out (.bool true))
          have hDs : W.heap.size > D := hb_lt HDW.out
          have hne9 : D ≠ w.heap.size + 1 + 1 := by have := hBL.out.size; omega
          have HDR := Lib.hid (show (W.setCell ⟨w.heap.size + 1 + 1, 0, none⟩ (.bool true)).heap[D]? = some (.deferred (some [])) from (Below.heap_setCell _ _ _ D hne9).trans HDW.out)
          refine ⟨by simp, .inl ⟨_, _, rfl, run_takeDeferred HDR.out, ?_⟩⟩
          refine ⟨_, results_bool rfl _ _ rfl (b := true) ?_, rfl, ?_⟩
          · refine (cell_block (a := ⟨w.heap.size + 1 + 1, 0, none⟩) (World.putObj_heap_other (fun e => hne9 e.symm))).trans (hc9.trans ?_)
            simp
          · exact told_end hBwW (by omega) (by omega) _ _
        · have hsl2 : ¬ (stop : Int) < (P.length : Int) := by omega
          have heq : stop = P.length := by omega
          have heq2 : ((stop : Int) == (P.length : Int)) = true := by simp [heq]
          have HEQ := Lib.hid heq; clear heq
          gi_wp2_with fail
          have hc9 := cell_of (i := 0) (hb_setCell_same (i := 0) HO.out (.bool true))
          have hDs : W.heap.size > D := hb_lt HDW.out
          have hne9 : D ≠ w.heap.size + 1 + 1 := by have := hBL.out.size; omega
          have HDR := Lib.hid (show (W.setCell ⟨w.heap.size + 1 + 1, 0, none⟩ (.bool true)).heap[D]? = some (.deferred (some [])) from (Below.heap_setCell _ _ _ D hne9).trans HDW.out)
          refine ⟨by simp, .inl ⟨_, _, rfl, run_takeDeferred HDR.out, ?_⟩⟩
          refine ⟨_, results_bool rfl _ _ rfl (b := true) ?_, rfl, ?_⟩
          · refine (cell_block (a := ⟨w.heap.size + 1 + 1, 0, none⟩) (World.putObj_heap_other (fun e => hne9 e.symm))).trans (hc9.trans ?_)
            simp
          · exact told_end hBwW (by omega) (by omega) _ _
    · exact absurd hsp hn
theorem told_any {w : World} {sb rb log n : Nat} {L : List NL} {F G : Nat → Prop} (h : Pair w sb rb log L F G n) (stop : Nat) (hs : stop ≤ 1000) :
    Calls Try.prog 61 #[.pointer (some ⟨sb, 0, none⟩), .pointer (some ⟨rb, 0, none⟩), .int .i64 (stop : Int)] w fun e w' => e = .returned (.bool true) ∧ Below w.heap.size w w' :=
  callsIn_wide.1 (told_in 5 (by omega) h stop hs)
end Go.Proofs.Ytoigddekipjkcaa
