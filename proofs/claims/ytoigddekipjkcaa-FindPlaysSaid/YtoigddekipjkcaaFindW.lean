/- find.Find.Twice. -/
import Derived.Test.YtoigddekipjkcaaFindS
namespace Go.Proofs.Ytoigddekipjkcaa
set_option linter.all false
open Go Go.RowKit Go.Proofs Go.Maps Go.Shelf
open Go.ChangeMaps (setBlock)
section
variable {K V : Type} {P : Program} {kt et T : TypeId} {ek : K → Value} {ev : V → Value} (w : World) {ops : Array Oper} {rest : List Oper} {o : Oper} {a : Act} {Q : Exit → Act → World → Prop}
theorem wpList_range_is [DecidableEq K] (hg : o.guard = none) (m : Operand) (hop : o.op = Op.range T m) (ht : P.underlying T = some (.map kt et))
    {b : Nat} {l : List (K × V)} (hm : a.eval m = .map (some b)) (h : MapIs ek ev w b l)
    (hK : ∀ w', Rng ek ev w' b w.heap.size l [] → w.grownBy w' none → w'.heap.size = w.heap.size + 1 → wpList P ops Q rest (a.put o.dst (.pointer (some ⟨w.heap.size, 0, none⟩))) w') :
    wpList P ops Q (o :: rest) a w := by
  refine wpList_plain hg fun K' hK' => ?_
  obtain ⟨ob, hrun, r1⟩ := run_range_is ht h
  unfold Oper.wp
  simp [execOp, hop, hm, hrun, Result.andThen]
  exact hK' _ _ (hK _ r1 (World.grownBy_alloc w ob none) (by simp))
theorem wpList_next_is (hg : o.guard = none) (it : Operand) (hop : o.op = Op.next it false)
    {b r : Nat} {l done : List (K × V)} (hit : a.eval it = .pointer (some ⟨r, 0, none⟩)) (hl : (l.map (·.1)).Nodup) (h : Rng ek ev w b r l done)
    (hDone : (∀ x ∈ l, x ∈ done) → wpList P ops Q rest (a.put o.dst (.tuple #[.bool false])) w)
    (hMore : ∀ x w', x ∈ l → x ∉ done → Rng ek ev w' b r l (done ++ [x]) → w.grownBy w' (some r) → w'.heap.size = w.heap.size →
      (Instr.entry (.pointer (some ⟨r, 0, none⟩))).run P w' = .ok (.tuple #[ek x.1, ev x.2]) w' → wpList P ops Q rest (a.put o.dst (.tuple #[.bool true, ek x.1, ev x.2])) w') :
    wpList P ops Q (o :: rest) a w := by
  refine wpList_plain hg fun K' hK' => ?_
  unfold Oper.wp
  rcases run_next_is (P := P) hl h o.type with ⟨hrun, hd⟩ | ⟨x, n, ob, hx, hxd, hrun, hr⟩
  · simp [execOp, hop, hit, hrun, Result.andThen]
    exact hK' _ _ (hDone hd)
  · simp [execOp, hop, hit, hrun, Result.andThen]
    exact hK' _ _ (hMore x _ hx hxd hr (setBlock_grown w n r ob) (by simp [size_setBlock]) (run_entry_is hr))
end
/-- The hashes of the pairs met so far that stand twice. -/
def sel (L : List HB) (done : List (HB × Value)) : List HB := (done.map (·.1)).filter (isTwice L)
theorem sel_snoc_in {L : List HB} {done : List (HB × Value)} {x : HB × Value} (h : 1 < (idx L x.1).length) : sel L (done ++ [x]) = sel L done ++ [x.1] := by
  unfold sel; rw [List.map_append, List.filter_append]; congr 1
  simp only [List.map_cons, List.map_nil]
  rw [List.filter_cons_of_pos (by unfold isTwice; simpa using h)]; rfl
theorem sel_snoc_out {L : List HB} {done : List (HB × Value)} {x : HB × Value} (h : ¬ 1 < (idx L x.1).length) : sel L (done ++ [x]) = sel L done := by
  unfold sel; rw [List.map_append, List.filter_append]
  simp only [List.map_cons, List.map_nil]
  rw [List.filter_cons_of_neg (by unfold isTwice; simpa using h)]; simp
theorem alGet_in {K V : Type} [DecidableEq K] {l : List (K × V)} (hn : (l.map (·.1)).Nodup) {x : K × V} (hx : x ∈ l) : alGet l x.1 = some x.2 := by
  obtain ⟨j, hj⟩ := List.getElem?_of_mem hx
  exact alGet_of hn hj
theorem MapOf.pair {w : World} {b : Nat} {M : List (HB × Value)} {L : List HB} {F : Nat → Prop} (h : MapOf w b M L F) {x : HB × Value} (hx : x ∈ M) : x.1 ∈ L ∧ rowOf M x.1 = x.2 := by
  have := alGet_in h.map.nodup hx
  refine ⟨Classical.byContradiction fun hn => ?_, by unfold rowOf; rw [this]; rfl⟩
  rw [(h.mem x.1).2 hn] at this; cases this
theorem sel_all {w : World} {b : Nat} {M : List (HB × Value)} {L : List HB} {F : Nat → Prop} (h : MapOf w b M L F) {done : List (HB × Value)} (h1 : ∀ x ∈ done, x ∈ M) (h2 : ∀ x ∈ M, x ∈ done) (x : HB) : x ∈ sel L done ↔ x ∈ twice L := by
  unfold sel twice
  rw [List.mem_filter, List.mem_filter, mem_firsts]
  constructor
  · rintro ⟨hx, ht⟩
    obtain ⟨p, hp, rfl⟩ := List.mem_map.1 hx
    exact ⟨(h.pair (h1 p hp)).1, ht⟩
  · rintro ⟨hx, ht⟩
    refine ⟨?_, ht⟩
    cases hg : alGet M x with
    | none => exact absurd hx ((h.mem x).1 hg)
    | some v =>
      have hm : x ∈ M.map (·.1) := Classical.byContradiction fun hn => by rw [(alGet_not_mem M x).2 hn] at hg; cases hg
      obtain ⟨p, hp, rfl⟩ := List.mem_map.1 hm
      exact List.mem_map_of_mem (h2 p hp)
theorem sel_nodup {M : List (HB × Value)} (hn : (M.map (·.1)).Nodup) {L : List HB} {done : List (HB × Value)} (h1 : ∀ x ∈ done, x ∈ M) (hd : done.Nodup) : (sel L done).Nodup := by
  unfold sel
  refine List.filter_sublist.nodup ?_
  have inj : ∀ x ∈ M, ∀ y ∈ M, x.1 = y.1 → x = y := by
    intro x hx y hy e
    have e1 := alGet_in hn hx
    have e2 := alGet_in hn hy
    rw [e, e2] at e1
    simp at e1
    exact Prod.ext e e1.symm
  clear hn
  induction done with
  | nil => exact List.nodup_nil
  | cons p r ih =>
    rw [List.nodup_cons] at hd
    rw [List.map_cons, List.nodup_cons]
    refine ⟨fun hm => ?_, ih (fun x hx => h1 x (by simp [hx])) hd.2⟩
    obtain ⟨q, hq, e⟩ := List.mem_map.1 hm
    have := inj q (h1 q (by simp [hq])) p (h1 p (by simp)) e
    exact hd.1 (this ▸ hq)
set_option maxRecDepth 100000 in
set_option maxHeartbeats 1000000 in
theorem FTwice_any {w : World} {fb : Nat} {L : List HB} {F : Nat → Prop} (h : FindAt w fb L F) (hL : L.length ≤ 1000000) : Calls Try.prog 42 #[.pointer (some ⟨fb, 0, none⟩)] w fun e w' =>
    ∃ v, e = .returned v ∧ HOwn w' w.heap.size v (twice L) ∧ Below w.heap.size w w' := by
  obtain ⟨vl, b, M, R⟩ := h
  have hfb := hb_lt R.own
  have hnd := R.m.map.nodup
  obtain ⟨i0, hi0, hz0, hz1, hz2⟩ := info_parts infoH
  obtain ⟨W1, hW1⟩ : ∃ W1, w.alloc (.cells #[.pointer (some ⟨fb, 0, none⟩)] 23) = W1 := ⟨_, rfl⟩
  have hs1 : W1.heap.size = w.heap.size + 1 := by rw [← hW1]; simp
  have hb1 : Below w.heap.size w W1 := by rw [← hW1]; exact (Below.refl _ _).alloc (Nat.le_refl _) _
  have hbox : W1.cell? ⟨w.heap.size, 0, none⟩ = some (.pointer (some ⟨fb, 0, none⟩)) := by rw [← hW1]; exact cell_of (hb_new w _)
  have c1 : W1.cell? ⟨fb, 1, none⟩ = some (.map (some b)) := (hb1.cell (p := ⟨fb, 1, none⟩) hfb).trans (cell_of R.own)
  have HMW := Lib.hid (R.m.map.same (hb1.block b R.m.map.lt))
  have HR := Lib.hid R; clear R
  have HN := Lib.hid hnd; clear hnd
  go_enter Try.func42, Try.ntmps42
  go_wp2_with (first
    | (at_range; refine wpList_range_is _ rfl _ rfl Try.underlying70 rfl HMW.out ?_; intro w0 hrg0 hg0 hs0)
    | fail)
  go_frame
  rw [hs1] at hrg0
  rw [hs1]
  have HS0 := Lib.hid hs0; clear hs0
  have HB1 := Lib.hid hb1; clear hb1
  have HW0 : Hid (Below (w.heap.size + 1) W1 w0) := ⟨hg0.os, hg0.tape, hg0.output, hg0.size, fun k hk => hg0.block k (by omega) (by simp)⟩
  clear hg0
  go_loopg [3] (M.length) (fun k vl wr => ∃ done : List (HB × Value), k + done.length = M.length ∧ Rng ekH id wr b (w.heap.size + 1) M done ∧ HOwn wr (w.heap.size + 2) vl (sel L done) ∧ (sel L done = [] → vl = .slice none 0 0) ∧ Below (w.heap.size + 1) W1 wr)
  case atStart => exact ⟨[], by simp, hrg0, World.ownsRow_nil _ _ _ _, fun _ => rfl, HW0.out⟩
  case round =>
    obtain ⟨done, hk, hrg, hown, hnil, hB⟩ := hrel
    have HK := Lib.hid hk; clear hk
    have HOW := Lib.hid hown; clear hown
    have HNIL := Lib.hid hnil; clear hnil
    have HBR := Lib.hid hB; clear hB
    have hcb : wr.cell? ⟨w.heap.size, 0, none⟩ = some (.pointer (some ⟨fb, 0, none⟩)) := (cell_block (a := ⟨w.heap.size, 0, none⟩) (HBR.out.block w.heap.size (by omega))).trans hbox
    go_wp2_with (first
      | (at_next; refine wpList_next_is _ rfl _ rfl rfl HN.out hrg ?_ ?_)
      | fail)
    · intro hall
      have HALL : Hid (∀ x ∈ M, x ∈ done) := fun x hx => hall x.1.1 x.1.2 x.2 hx
      clear hall
      have HRG := Lib.hid hrg; clear hrg
      have hbw : Below w.heap.size w wr := HB1.out.trans (HBR.out.mono (by omega))
      have HRw := Lib.hid (HR.out.kept hbw.size (fun j hj => hbw.block j (HR.out.lt j hj)))
      have hsub : ∀ x ∈ done, x ∈ M := HRG.out.sub
      have HND := Lib.hid (sel_nodup HN.out (L := L) hsub HRG.out.nd)
      have HSA := Lib.hid (fun x => sel_all HR.out.m hsub HALL.out x)
      have HIN : Hid (∀ x ∈ sel L done, x ∈ L) := fun x hx => (mem_firsts L x).1 (List.mem_filter.1 ((HSA.out x).1 hx)).1
      have HSL : Hid ((sel L done).length ≤ 1000000) := by
        have := length_le_of_sub HND.out HIN.out
        unfold Hid; omega
      have HGG : Hid (∀ j, u3.ownBlock = some j → ¬ F j ∧ j ≠ w.heap.size) := fun j hj => by
        have := (ownsRow_lt HOW.out hj).2
        exact ⟨fun hF => by have := HR.out.lt j hF; omega, by omega⟩
      have HOS : Hid (∀ j, u3.ownBlock = some j → w.heap.size ≤ j) := fun j hj => by have := (ownsRow_lt HOW.out hj).2; omega
      clear hsub
      have HBW := Lib.hid hbw; clear hbw
      have hwn : w.heap.size + 2 ≤ wr.heap.size := by have := HBR.out.size; have := HRG.out.lt.2; omega
      go_wp2_with fail
      refine (sortHashes_any HOW.out HNIL.out HIN.out HRw.out hL HGG.out hcb HND.out HSL.out).mono ?_
      rintro e w3 ⟨rfl, ks', hp, hri, ho, hfr⟩
      have HE : Hid (ks' = twice L) := rise_unique hri (twice_rise L hL) (fun x => (hp.mem_iff).trans (HSA.out x))
      have HO := Lib.hid (ownsRow_base ho (show w.heap.size ≤ w.heap.size + 2 by omega))
      have HF := Lib.hid hfr
      clear hp hri ho hfr
      go_wp2_with fail
      go_ret
      refine ⟨_, rfl, ?_, ?_⟩
      · rw [← HE.out]; exact HO.out
      · exact ⟨HF.out.os.trans HBW.out.os, HF.out.tape.trans HBW.out.tape, HF.out.output.trans HBW.out.output, Nat.le_trans HBW.out.size HF.out.size, fun k hk => (HF.out.block k (by have := HBW.out.size; omega) (fun e => by have := HOS.out k e; omega)).trans (HBW.out.block k hk)⟩
    · intro a ha q w2 hxl hxd hrg2 hg2 hs2 hen
      obtain ⟨y, hy⟩ : ∃ y : HB, (⟨a, ha⟩ : HB) = y := ⟨_, rfl⟩
      rw [hy] at hxl hxd hrg2 hen
      rw [hy]
      clear hy
      obtain ⟨hyl, hrow⟩ := HR.out.m.pair hxl
      simp only at hyl hrow
      obtain ⟨g2, cp2, hq⟩ : ∃ g2 cp2, q = .slice (some ⟨g2, 0, none⟩) (idx L y).length cp2 := by
        rcases rowOf_shape HR.out.m y with ⟨h, _⟩ | ⟨_, g, c, h⟩
        · exact absurd hyl h
        · exact ⟨g, c, hrow.symm.trans h⟩
      have hlen : done.length < M.length := by
        haveI : DecidableEq (HB × Value) := fun a b => Classical.propDecidable (a = b)
        have := length_le_of_sub (d := done ++ [(y, q)]) (l := M) hrg2.nd hrg2.sub
        simp at this; omega
      have hws : w.heap.size + 2 ≤ wr.heap.size := by have := HBR.out.size; have := hrg.lt.2; omega
      have hB2 : Below (w.heap.size + 1) W1 w2 := HBR.out.grown hg2 (by omega) (fun k e => by cases e; omega)
      have HOW2 : Hid (HOwn w2 (w.heap.size + 2) u3 (sel L done)) := HOW.out.same (fun j hj => hg2.block j (ownsRow_lt HOW.out hj).1 (fun e => by have := (ownsRow_lt HOW.out hj).2; cases e; omega))
      have HXS := Lib.hid (show 1 < (idx L y).length → sel L (done ++ [(y, q)]) = sel L done ++ [y] from fun h => sel_snoc_in (x := (y, q)) h)
      have HXO := Lib.hid (show ¬ 1 < (idx L y).length → sel L (done ++ [(y, q)]) = sel L done from fun h => sel_snoc_out (x := (y, q)) h)
      have hil := idx_length L y
      have hsl : (sel L done).length ≤ M.length := by unfold sel; have := List.length_filter_le (isTwice L) (done.map (·.1)); simp at this; omega
      have hMl : M.length ≤ 1000000 := by have := HR.out.m.length; have := firsts_length L; omega
      rw [hq] at hen hrg2 HXS HXO
      rw [hq]
      clear hxl hxd hrow hq hg2
      have HRG2 := Lib.hid hrg2; clear hrg2 hrg
      have HB2 := Lib.hid hB2; clear hB2
      obtain ⟨m, hm⟩ : ∃ m, (idx L y).length = m := ⟨_, rfl⟩
      rw [hm] at hen HRG2 HXS HXO hil
      rw [hm]
      clear hm
      unfold ekH at hen ⊢
      have hws2 : w.heap.size + 2 ≤ w2.heap.size := by omega
      obtain ⟨W5, hW5⟩ : ∃ W5, putRow (w2.alloc (Obj.cells (encH zH) 30)) ⟨w2.heap.size, 0, none⟩ (encH y).toList = W5 := ⟨_, rfl⟩
      have hb5 : Below w2.heap.size w2 W5 := by rw [← hW5]; exact below_putRow ((Below.refl _ w2).alloc (Nat.le_refl _) _) (Nat.le_refl _) _
      have hs5 : W5.heap.size = w2.heap.size + 1 := by rw [← hW5, size_putRow]; simp
      have hr5 : rowAt W5 ⟨w2.heap.size, 0, none⟩ 32 = some (encH y) := by rw [← hW5]; exact rowAt_putRow_same (hb_new w2 _) (size_encH _) (size_encH _)
      have HOW5 : Hid (HOwn W5 (w.heap.size + 2) u3 (sel L done)) := HOW2.out.same (fun j hj => hb5.block j (ownsRow_lt HOW2.out hj).1)
      have HRG5 : Hid (Rng ekH id W5 b (w.heap.size + 1) M (done ++ [(y, Value.slice (some { block := g2, off := 0 }) m cp2)])) := HRG2.out.same (hb5.block b HRG2.out.lt.1) (hb5.block _ HRG2.out.lt.2)
      have HB5 : Hid (Below (w.heap.size + 1) W1 W5) := HB2.out.trans (hb5.mono (by omega))
      have HLT : Hid (b < W5.heap.size) := by have := HRG5.out.lt.1; exact this
      have HBL : Hid (b < w.heap.size) := HR.out.m.map.lt
      clear hb5 hs2
      subst hW5
      by_cases hm1 : 1 < m
      · have hm2 : (1 : Int) < (m : Int) := by omega
        have HXX := Lib.hid (HXS.out hm1)
        go_wp2_with (at_builtin; refine wpList_append_own_at _ rfl _ _ 26 rfl (w.heap.size + 2) 30 i0 (.agg (encH zH)) 32 32 Try.underlying26 hi0 hz0 hz1 hz2 (size_encH _) (by decide) _ _ _ rfl (HOW5.out.alloc _) ⟨w2.heap.size + 1, 0, none⟩ 1 1 (encH y).toList rfl (length_encH y) ?hnews ?h1 ?h63 ?hbytes ?hbase ?_)
        case hnews =>
          intro j u hj
          have hn := hb_new (putRow (w2.alloc (Obj.cells (encH zH) 30)) ⟨w2.heap.size, 0, none⟩ (encH y).toList) (.cells (encH y) 30)
          rw [hs5] at hn
          rw [Addr.add_lit, Nat.zero_add, cell_of hn]
          simpa using hj
        case h1 => intro u hu; have := one_encH y; unfold oneCells at this; rw [List.all_eq_true] at this; exact this u hu
        case h63 => unfold maxLen; omega
        case hbytes => omega
        case hbase => simp [size_putRow]; omega
        intro v' w6 hown' hgrow hnil hloc
        have hb6 : Below (w.heap.size + 1) W1 w6 := by
          refine (HB5.out.alloc (by rw [hs5]; omega) _).grown hgrow (by simp [size_putRow]; omega) (fun k e => ?_)
          have := (ownsRow_lt HOW5.out e).2; omega
        have hrg6 : Rng ekH id w6 b (w.heap.size + 1) M (done ++ [(y, Value.slice (some { block := g2, off := 0 }) m cp2)]) := by
          have hne : ∀ j, j < w.heap.size + 2 → some j ≠ u3.ownBlock := fun j hj e => by have := (ownsRow_lt HOW5.out e.symm).2; omega
          refine HRG5.out.same ?_ ?_
          · exact (hgrow.block b (by simp; have := HLT.out; omega) (hne b (by have := HBL.out; omega))).trans (Below.heap_alloc _ _ b HLT.out)
          · exact (hgrow.block _ (by simp [size_putRow]; omega) (hne _ (by omega))).trans (Below.heap_alloc _ _ _ (by rw [hs5]; omega))
        have HO := Lib.hid hown'; clear hown'
        have HB6 := Lib.hid hb6; clear hb6
        have HRG6 := Lib.hid hrg6; clear hrg6
        clear hgrow hnil hloc
        go_wp2_with fail
        go_roundg (gk - 1)
        case measure => have := HK.out; omega
        case rel =>
          refine ⟨done ++ [(y, Value.slice (some { block := g2, off := 0 }) m cp2)], by have := HK.out; simp; omega, HRG6.out, ?_, by rw [HXX.out]; intro e; simp at e, HB6.out⟩
          rw [HXX.out]
          have := HO.out
          unfold HOwn
          rw [rowH_append, rowH_one, List.length_append, List.length_singleton]
          exact this
      · have hm2 : ¬ (1 : Int) < (m : Int) := by omega
        have HXX := Lib.hid (HXO.out hm1)
        go_wp2_with fail
        go_roundg (gk - 1)
        case measure => have := HK.out; omega
        case rel => exact ⟨done ++ [(y, Value.slice (some { block := g2, off := 0 }) m cp2)], by have := HK.out; simp; omega, HRG5.out, by rw [HXX.out]; exact HOW5.out, by rw [HXX.out]; exact HNIL.out, HB5.out⟩
end Go.Proofs.Ytoigddekipjkcaa
