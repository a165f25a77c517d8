/- massiflaw5.act: a sweep. -/
import Derived.Deep.DeepCutAuto
import Derived.Deep.RegionHeld3
import Derived.Test.YtoigddekipjkcaaAct2
namespace Go.Proofs.Ytoigddekipjkcaa
set_option linter.all false
open Go Go.RowKit Go.Proofs Go.Maps
def x171 : U64 := ⟨171, by omega⟩
theorem wpAnyH_name {P : Program} {md : Region.Mode} {ops : Array Oper} {Q : Exit → Act → World → Prop} {S : World → Prop} {fuel : Nat} {listed : Array Bool} {a : Act} {w : World} (h : ∀ W, Hid (W = w) → wpAnyH P md ops Q S fuel listed a W) : wpAnyH P md ops Q S fuel listed a w := h w rfl
theorem num_one {w : World} {b : Nat} (h : w.heap[b]? = some (.cells #[.int .u64 171] 31 (0, 0))) : NumRow w (.slice (some ⟨b, 0, none⟩) 1 1) [x171] :=
  ⟨_, _, rfl, fun i k hi => by
    cases i with
    | zero => simp at hi; subst hi; exact ⟨b, 0, rfl, (cell_of h).trans rfl⟩
    | succ i => simp at hi⟩
theorem num_grown {w w' : World} {b : Nat} {ks : List U64} {n c : Nat} {r : Option Nat} (h : NumRow w (.slice (some ⟨b, 0, none⟩) n c) ks) (hg : w.grownBy w' r) (hn : some b ≠ r) : NumRow w' (.slice (some ⟨b, 0, none⟩) n c) ks := by
  obtain ⟨ad, cap, e, hr⟩ := h
  refine ⟨ad, cap, e, fun i k hi => ?_⟩
  obtain ⟨b2, o, e2, hc⟩ := hr i k hi
  have hb : b2 = b := by simp at e; rw [e2] at e; have := e.1; simp at this; exact this.1.symm
  subst hb
  exact ⟨b2, o, e2, (cell_block (a := ⟨b2, o + i, none⟩) (hg.block b2 (cell_lt hc) hn)).trans hc⟩
theorem box_grown {w w' : World} {b i r : Nat} {v : Value} (h : w.cell? ⟨b, i, none⟩ = some v) (hg : w.grownBy w' (some r)) (hn : b ≠ r) : w'.cell? ⟨b, i, none⟩ = some v :=
  (cell_block (a := ⟨b, i, none⟩) (hg.block b (cell_lt h) (fun e => hn (Option.some.inj e)))).trans h
theorem own_ge2 {w : World} {base : Nat} {ad : Addr} {n cap m : Nat} {xs : List Value} {e : TypeId} {s : Nat} (h : w.ownsRow base e s (.slice (some ad) n cap) m xs) : base ≤ ad.block := by
  rcases h.2 with ⟨e, _⟩ | ⟨g, c', cur, e, h1, _⟩
  · cases e
  · simp at e; rw [e.1]; exact h1
theorem own_ge {w : World} {base b : Nat} {ad : Addr} {n cap m : Nat} {xs : List Value} {e : TypeId} {s : Nat} (h : w.ownsRow base e s (.slice (some ad) n cap) m xs) (hb : b < base) : b ≠ ad.block := by have := own_ge2 h; omega
theorem step_append_nums {ops : Array Oper} {o : Oper} {a : Act} {w : World} {K : Act → World → Prop} {Q : Exit → Act → World → Prop} {E : Prop}
    (hg : o.guard = none) (s x : Operand) (hop : o.op = Op.call { callee := Callee.builtin Builtin.append, args := #[s, x], argTypes := #[36, 36] })
    (base : Nat) (ad0 : Addr) (cap0 : Nat) (xs ks : List U64) (hs : a.eval s = .slice (some ad0) xs.length cap0) (hown : w.ownsRow base 31 1 (.slice (some ad0) xs.length cap0) xs.length (u64Cells xs))
    (v : Value) (hx : a.eval x = v) (hr : NumRow w v ks) (hlen : xs.length + ks.length ≤ 1000000) (hbase : base ≤ w.heap.size)
    (hK : ∀ ad cap w', w'.ownsRow base 31 1 (.slice (some ad) (xs ++ ks).length cap) (xs ++ ks).length (u64Cells (xs ++ ks)) → w.grownBy w' (some ad0.block) → (ad.block = ad0.block ∨ ad.block = w.heap.size) → K (a.put o.dst (.slice (some ad) (xs ++ ks).length cap)) w') :
    if Region.wanted o (yielded ops a.tmps) = true then Oper.wp Try.prog o a w K Q else E := by
  have hw : Region.wanted o (yielded ops a.tmps) = true := by simp [Region.wanted, hg]
  rw [if_pos hw]
  obtain ⟨ad, cap, w', hrun, h1, h2, h3⟩ := run_append_nums w o.type base ad0 cap0 xs ks hown v hr hlen hbase
  unfold Oper.wp execOp
  simp only [hop, resolve, invoke, builtin, Sem.run_bind, Sem.run_pure, Result.andThen_ok, List.map_toArray, List.map_cons, List.map_nil, hs, hx, hrun]
  exact hK ad cap w' h1 h2 h3
theorem row_of {w : World} {base : Nat} {ad : Addr} {cap : Nat} {xs : List U64} (h : w.ownsRow base 31 1 (.slice (some ad) xs.length cap) xs.length (u64Cells xs)) :
    ∃ g cur, ad = ⟨g, 0, none⟩ ∧ base ≤ g ∧ w.heap[g]? = some (.cells cur 31 (0, 0)) ∧ (∀ (j : Nat) (k : U64), xs[j]? = some k → cur[j]? = some (.int .u64 (k.1 : Int))) ∧ xs.length ≤ cap := by
  rcases h.2 with ⟨e, _⟩ | ⟨g, c', cur, e, h1, h2, h3, h4, h5, h6⟩
  · cases e
  · simp at e
    obtain ⟨rfl, rfl⟩ := e
    refine ⟨g, cur, rfl, h1, h2, fun j k hj => ?_, h3⟩
    have hl := (List.getElem?_eq_some_iff.1 hj).1
    have e1 : (u64Cells xs)[j]? = some (.int .u64 (k.1 : Int)) := by unfold u64Cells; rw [List.getElem?_map, hj]; rfl
    rw [← h6, List.getElem?_take, if_pos (by omega)] at e1
    simpa using e1
theorem num_fr {w w' : World} {v : Value} {ks : List U64} {S : Nat → Prop} (h : NumRow w v ks) (hf : Fr S w w') (hn : ks ≠ [] → ∀ b o, v = .slice (some ⟨b, o, none⟩) ks.length (match v with | .slice _ _ c => c | _ => 0) → ¬ S b) : NumRow w' v ks := by
  obtain ⟨ad, cap, rfl, hr⟩ := h
  refine ⟨ad, cap, rfl, fun i k hi => ?_⟩
  obtain ⟨b, o, e, hc⟩ := hr i k hi
  subst e
  exact ⟨b, o, rfl, (cell_block (a := ⟨b, o + i, none⟩) (hf.block b (cell_lt hc) (hn (fun e => by rw [e] at hi; cases hi) b o rfl))).trans hc⟩
theorem below_cell {B g : Nat} {a w : World} (h : Below B a w) (hg : B ≤ g) (i : Nat) (v : Value) : Below B a (w.setCell ⟨g, i, none⟩ v) :=
  ⟨h.os, h.tape, h.output, by simp; exact h.size, fun k hk => (Below.heap_setCell _ _ _ k (by show k ≠ g; omega)).trans (h.block k hk)⟩
theorem Below.refl3 (B : Nat) (w : World) (h : B ≤ w.heap.size) : Below B w w := (Below.refl B w)
theorem fr_of_below3 {B : Nat} {S : Nat → Prop} {a b : World} (h : Below B a b) : Fr (fun j => B ≤ j) a b := ⟨h.os, h.tape, h.output, h.size, fun k _ hn => h.block k (by omega)⟩
/-- The copy that is given to the sweep. -/
def R13 (W1 : World) (ks : List U64) (v : Value) (wx : World) : Prop :=
  ∃ ad cap, v = .slice (some ad) ks.length cap ∧ wx.ownsRow W1.heap.size 31 1 (.slice (some ad) (ks ++ [x171]).length cap) (ks ++ [x171]).length (u64Cells (ks ++ [x171])) ∧ Below W1.heap.size W1 wx
section
variable {w : World} {sb rb log n : Nat} {L : List NL} {F G : Nat → Prop}
set_option maxRecDepth 100000 in
set_option maxHeartbeats 1000000 in
theorem act_6 (h : Pair w sb rb log L F G n) (hn : n + 1 ≤ 1000) (a : ActL) (ha : a.what = 6) (hk : NumRow w a.kv a.ks) (hkl : a.ks.length ≤ 1000) (hap : a.ks ≠ [] → ∀ b o nn c, a.kv = .slice (some ⟨b, o, none⟩) nn c → ¬ F b ∧ ¬ G b) :
    Calls Try.prog 37 #[.pointer (some ⟨sb, 0, none⟩), .pointer (some ⟨rb, 0, none⟩), .agg (encA a)] w (ActPost w sb rb log (n + 1) F G) := by
  have HLn := Lib.hid h.lenLe
  have H := Lib.hid h; clear h
  go_enter Try.func37, Try.ntmps37
  obtain ⟨W1, hW1⟩ : ∃ W1, W1 = w.alloc (.cells (encA a) 65) := ⟨_, rfl⟩
  have hb0 : Below w.heap.size w W1 := by rw [hW1]; exact (Below.refl _ _).alloc (Nat.le_refl _) _
  have hbx : W1.heap[w.heap.size]? = some (actO a) := by rw [hW1]; exact hb_new w _
  have AB := ABox.of hbx
  have hc0 := AB.c0
  rw [ha] at hc0
  have hc1 := AB.c1
  have hc2 := AB.c2
  have hc34 := AB.c34
  rw [hW1] at hc0
  go_upto_region 13 with fail
  rw [← hW1]
  obtain ⟨adk, capk, ekv, hrow⟩ := hk
  have hkw : NumRow w (.slice adk a.ks.length capk) a.ks := ⟨adk, capk, rfl, hrow⟩
  have hkW := hkw.below hb0
  rw [ekv] at hc34
  have hsz : w.heap.size < W1.heap.size := hb_lt hbx
  clear hW1 hc0 hc1 hc2 AB hrow
  go_cut [7] (fun v wx => R13 W1 a.ks v wx)
  case first =>
    clear hap ekv
    refine wp_region_held_drew (S := fun w' => w'.cell? ⟨w.heap.size, 34, none⟩ = some (.slice adk a.ks.length capk)) (by kernel_rfl) ?_ (fun hHeld => ?_)
    · exact hc34
    refine wpAnyH_take (i := 1) (oi := { dst := some 66, op := Op.fieldAddr 65 (Operand.tmp 5) 3, type := 0, pos := "law.go:83", after := #[], guard := none }) (v := ?_) rfl (by kernel_rfl) (by kernel_rfl) (by kernel_rfl) (fun _ _ _ h => h) (Or.inl ⟨by rfl, ?_⟩) hHeld ?_
    rotate_left 1
    · (intro w9 hSw; (try dsimp only at hSw); go_simp)
      try with_reducible rfl
    try simp only [Act.put, List.setIfInBounds_toArray, List.set_cons_zero, List.set_cons_succ]
    refine wpAnyH_take (i := 2) (oi := { dst := some 67, op := Op.load 36 (Operand.tmp 66), type := 36, pos := "law.go:83", after := #[{ on := 1, ground := Ground.data }], guard := none }) (v := ?_) rfl (by kernel_rfl) (by kernel_rfl) (by kernel_rfl) (fun _ _ _ h => h) (Or.inl ⟨by rfl, ?_⟩) hHeld ?_
    rotate_left 1
    · (intro w9 hSw; (try dsimp only at hSw); go_simp)
      try with_reducible rfl
    try simp only [Act.put, List.setIfInBounds_toArray, List.set_cons_zero, List.set_cons_succ]
    refine wpAnyH_take (i := 6) (oi := { dst := some 71, op := Op.fieldAddr 65 (Operand.tmp 5) 3, type := 0, pos := "law.go:83", after := #[], guard := none }) (v := ?_) rfl (by kernel_rfl) (by kernel_rfl) (by kernel_rfl) (fun _ _ _ h => h) (Or.inl ⟨by rfl, ?_⟩) hHeld ?_
    rotate_left 1
    · (intro w9 hSw; (try dsimp only at hSw); go_simp)
      try with_reducible rfl
    try simp only [Act.put, List.setIfInBounds_toArray, List.set_cons_zero, List.set_cons_succ]
    refine wpAnyH_take (i := 7) (oi := { dst := some 72, op := Op.load 36 (Operand.tmp 71), type := 36, pos := "law.go:83", after := #[{ on := 6, ground := Ground.data }], guard := none }) (v := ?_) rfl (by kernel_rfl) (by kernel_rfl) (by kernel_rfl) (fun _ _ _ h => h) (Or.inl ⟨by rfl, ?_⟩) hHeld ?_
    rotate_left 1
    · (intro w9 hSw; (try dsimp only at hSw); go_simp)
      try with_reducible rfl
    try simp only [Act.put, List.setIfInBounds_toArray, List.set_cons_zero, List.set_cons_succ]
    refine wpAnyH_take (i := 8) (oi := { dst := some 73, op := Op.call { callee := Callee.builtin Builtin.len, args := #[Operand.tmp 72], argTypes := #[36] }, type := 3, pos := "law.go:83", after := #[{ on := 7, ground := Ground.data }], guard := none }) (v := ?_) rfl (by kernel_rfl) (by kernel_rfl) (by kernel_rfl) (fun _ _ _ h => h) (Or.inl ⟨by rfl, ?_⟩) hHeld ?_
    rotate_left 1
    · (intro w9 hSw; (try dsimp only at hSw); go_simp)
      try with_reducible rfl
    try simp only [Act.put, List.setIfInBounds_toArray, List.set_cons_zero, List.set_cons_succ]
    refine wpAnyH_ready (rs := [0,4]) (by kernel_rfl) (by simp) ?_
    refine AllReadyH.cons (o := { dst := some 65, op := Op.buildSlice 36 0 #[], type := 36, pos := "law.go:83", after := #[], guard := none }) rfl (fun K hK => ?_) (AllReadyH.cons (o := { dst := some 69, op := Op.buildSlice 36 1 #[(0, Operand.const (Value.int IntKind.u64 171))], type := 36, pos := "law.go:83", after := #[], guard := none }) rfl (fun K hK => ?_) AllReadyH.nil)
    · go_simp
      refine hK.out _ _ (cell_alloc_old hHeld) (fun hHeld2 => ?_)
      clear hK K
      try simp only [Act.put, List.setIfInBounds_toArray, List.set_cons_zero, List.set_cons_succ]
      clear hHeld
      refine wpAnyH_name fun V1 HV1 => ?_
      have sV1 : V1.heap.size = W1.heap.size + 1 := by rw [HV1.out]; simp
      have gV1 : V1.heap[W1.heap.size]? = some (.cells #[] 31 (0, 0)) := by rw [HV1.out]; exact hb_new W1 _
      have bV1 : Below W1.heap.size W1 V1 := by rw [HV1.out]; exact ((Below.refl _ _).alloc (Nat.le_refl _) _).drew
      replace hHeld : V1.cell? ⟨w.heap.size, 34, none⟩ = some (.slice adk a.ks.length capk) := by rw [HV1.out]; exact hHeld2
      clear hHeld2
      have wV1 : V1.ownsRow W1.heap.size 31 1 (.slice (some ⟨W1.heap.size, 0, none⟩) 0 0) 0 [] := ⟨rfl, .inr ⟨W1.heap.size, 0, #[], rfl, Nat.le_refl _, gV1, Nat.le_refl _, Nat.zero_le _, rfl, rfl⟩⟩
      have bB1 : Below W1.heap.size W1 V1 := bV1
      have k1 : NumRow V1 (.slice adk a.ks.length capk) a.ks := hkW.below bV1
      refine wpAnyH_ready (rs := [3,4]) (by kernel_rfl) (by simp) ?_
      refine AllReadyH.cons (o := { dst := some 68, op := Op.call { callee := Callee.builtin Builtin.append, args := #[Operand.tmp 65, Operand.tmp 67], argTypes := #[36, 36] }, type := 36, pos := "law.go:83", after := #[{ on := 0, ground := Ground.data }, { on := 2, ground := Ground.data }], guard := none }) rfl (fun K hK => ?_) (AllReadyH.cons (o := { dst := some 69, op := Op.buildSlice 36 1 #[(0, Operand.const (Value.int IntKind.u64 171))], type := 36, pos := "law.go:83", after := #[], guard := none }) rfl (fun K hK => ?_) AllReadyH.nil)
      · refine step_append_nums rfl _ _ rfl W1.heap.size ⟨W1.heap.size, 0, none⟩ 0 [] a.ks rfl wV1 _ rfl k1 (by simp; omega) (by omega) ?_
        intro adV2 capV2 V2 oV2 gV2 lV2
        refine hK.out _ _ ?_ (fun hHeld2 => ?_)
        · exact box_grown hHeld gV2 (by show w.heap.size ≠ W1.heap.size; omega)
        clear hHeld
        have hHeld := hHeld2
        clear hHeld2
        clear hK K
        try simp only [Act.put, List.setIfInBounds_toArray, List.set_cons_zero, List.set_cons_succ]
        simp only [List.nil_append] at oV2 ⊢
        have bB2 : Below W1.heap.size W1 V2 := bB1.grown gV2 (by omega) (fun k e => by cases e; exact Nat.le_refl _)
        have sV2 := gV2.size
        refine wpAnyH_ready (rs := [4]) (by kernel_rfl) (by simp) ?_
        refine AllReadyH.cons (o := { dst := some 69, op := Op.buildSlice 36 1 #[(0, Operand.const (Value.int IntKind.u64 171))], type := 36, pos := "law.go:83", after := #[], guard := none }) rfl (fun K hK => ?_) AllReadyH.nil
        go_simp
        refine hK.out _ _ (cell_alloc_old hHeld) (fun hHeld2 => ?_)
        clear hK K
        try simp only [Act.put, List.setIfInBounds_toArray, List.set_cons_zero, List.set_cons_succ]
        clear hHeld
        refine wpAnyH_name fun V3 HV3 => ?_
        have sV3 : V3.heap.size = V2.heap.size + 1 := by rw [HV3.out]; simp
        have gV3 : V3.heap[V2.heap.size]? = some (.cells #[.int .u64 171] 31 (0, 0)) := by rw [HV3.out]; exact hb_new V2 _
        have bV3 : Below V2.heap.size V2 V3 := by rw [HV3.out]; exact (Below.refl _ _).alloc (Nat.le_refl _) _
        replace hHeld : V3.cell? ⟨w.heap.size, 34, none⟩ = some (.slice adk a.ks.length capk) := by rw [HV3.out]; exact hHeld2
        clear hHeld2
        have nV3 : NumRow V3 (.slice (some ⟨V2.heap.size, 0, none⟩) 1 1) [x171] := num_one gV3
        have w3 : V3.ownsRow W1.heap.size 31 1 (.slice (some adV2) a.ks.length capV2) a.ks.length (u64Cells a.ks) := by rw [HV3.out]; exact oV2.alloc _
        have bB3 : Below W1.heap.size W1 V3 := bB2.trans (bV3.mono (by omega))
        refine wpAnyH_ready (rs := [5]) (by kernel_rfl) (by simp) ?_
        refine AllReadyH.cons (o := { dst := some 70, op := Op.call { callee := Callee.builtin Builtin.append, args := #[Operand.tmp 68, Operand.tmp 69], argTypes := #[36, 36] }, type := 36, pos := "law.go:83", after := #[{ on := 3, ground := Ground.data }, { on := 4, ground := Ground.data }, { on := 3, ground := Ground.chain }], guard := none }) rfl (fun K hK => ?_) AllReadyH.nil
        refine step_append_nums rfl _ _ rfl W1.heap.size adV2 capV2 a.ks [x171] rfl w3 _ rfl nV3 (by simp; omega) (by omega) ?_
        intro adV4 capV4 V4 oV4 gV4 lV4
        refine hK.out _ _ ?_ (fun hHeld2 => ?_)
        · exact box_grown hHeld gV4 (own_ge w3 (by omega))
        clear hHeld
        have hHeld := hHeld2
        clear hHeld2
        clear hK K
        try simp only [Act.put, List.setIfInBounds_toArray, List.set_cons_zero, List.set_cons_succ]
        have bBV4 : Below W1.heap.size W1 V4 := bB3.grown gV4 (by have := bB3.size; omega) (fun k e => by cases e; exact own_ge2 w3)
        refine wpAnyH_ready (rs := [9]) (by kernel_rfl) (by simp) ?_
        refine AllReadyH.cons (o := { dst := some 74, op := Op.slice 36 (Operand.tmp 70) none (some (Operand.tmp 73)) none, type := 36, pos := "law.go:83", after := #[{ on := 5, ground := Ground.data }, { on := 8, ground := Ground.data }], guard := none }) rfl (fun K hK => ?_) AllReadyH.nil
        have hcp : (a.ks.length : Int) ≤ (capV4 : Int) := by
          rcases oV4.2 with ⟨e, _⟩ | ⟨g, c', cur, e, _, _, h4, _⟩
          · cases e
          · simp at e h4; omega
        simp only [List.length_append, List.length_singleton]
        go_simp
        refine hK.out _ _ hHeld (fun hHeld2 => ?_)
        clear hHeld
        have hHeld := hHeld2
        clear hHeld2
        clear hK K
        try simp only [Act.put, List.setIfInBounds_toArray, List.set_cons_zero, List.set_cons_succ]
        refine wpAnyH_take (i := 10) (oi := { dst := some 7, op := Op.assign (Operand.tmp 74), type := 36, pos := "law.go:83", after := #[{ on := 9, ground := Ground.data }, { on := 5, ground := Ground.chain }, { on := 0, ground := Ground.phase }, { on := 1, ground := Ground.phase }, { on := 2, ground := Ground.phase }, { on := 3, ground := Ground.phase }, { on := 4, ground := Ground.phase }, { on := 5, ground := Ground.phase }, { on := 6, ground := Ground.phase }, { on := 7, ground := Ground.phase }, { on := 8, ground := Ground.phase }, { on := 9, ground := Ground.phase }], guard := none }) (v := ?_) rfl (by kernel_rfl) (by kernel_rfl) (by kernel_rfl) (fun _ _ _ h => h) (Or.inl ⟨by rfl, ?_⟩) hHeld ?_
        rotate_left 1
        · (intro w9 hSw; (try dsimp only at hSw); go_simp)
          try with_reducible rfl
        try simp only [Act.put, List.setIfInBounds_toArray, List.set_cons_zero, List.set_cons_succ]
        refine wpAnyH_done (by kernel_rfl) ?_ _
        go_wp2_with fail
        go_meet
        exact ⟨adV4, capV4, rfl, oV4, bBV4⟩
      · go_simp
        refine hK.out _ _ (cell_alloc_old hHeld) (fun hHeld2 => ?_)
        clear hK K
        try simp only [Act.put, List.setIfInBounds_toArray, List.set_cons_zero, List.set_cons_succ]
        clear hHeld
        refine wpAnyH_name fun V2 HV2 => ?_
        have sV2 : V2.heap.size = V1.heap.size + 1 := by rw [HV2.out]; simp
        have gV2 : V2.heap[V1.heap.size]? = some (.cells #[.int .u64 171] 31 (0, 0)) := by rw [HV2.out]; exact hb_new V1 _
        have bV2 : Below V1.heap.size V1 V2 := by rw [HV2.out]; exact (Below.refl _ _).alloc (Nat.le_refl _) _
        replace hHeld : V2.cell? ⟨w.heap.size, 34, none⟩ = some (.slice adk a.ks.length capk) := by rw [HV2.out]; exact hHeld2
        clear hHeld2
        have nV2 : NumRow V2 (.slice (some ⟨W1.heap.size + 1, 0, none⟩) 1 1) [x171] := num_one (by rw [← sV1]; exact gV2)
        have w2 : V2.ownsRow W1.heap.size 31 1 (.slice (some ⟨W1.heap.size, 0, none⟩) 0 0) 0 [] := by rw [HV2.out]; exact wV1.alloc _
        have bB2 : Below W1.heap.size W1 V2 := bB1.trans (bV2.mono (by omega))
        have k2 : NumRow V2 (.slice adk a.ks.length capk) a.ks := hkW.below bB2
        refine wpAnyH_ready (rs := [3]) (by kernel_rfl) (by simp) ?_
        refine AllReadyH.cons (o := { dst := some 68, op := Op.call { callee := Callee.builtin Builtin.append, args := #[Operand.tmp 65, Operand.tmp 67], argTypes := #[36, 36] }, type := 36, pos := "law.go:83", after := #[{ on := 0, ground := Ground.data }, { on := 2, ground := Ground.data }], guard := none }) rfl (fun K hK => ?_) AllReadyH.nil
        refine step_append_nums rfl _ _ rfl W1.heap.size ⟨W1.heap.size, 0, none⟩ 0 [] a.ks rfl w2 _ rfl k2 (by simp; omega) (by omega) ?_
        intro adV3 capV3 V3 oV3 gV3 lV3
        refine hK.out _ _ ?_ (fun hHeld2 => ?_)
        · exact box_grown hHeld gV3 (by show w.heap.size ≠ W1.heap.size; omega)
        clear hHeld
        have hHeld := hHeld2
        clear hHeld2
        clear hK K
        try simp only [Act.put, List.setIfInBounds_toArray, List.set_cons_zero, List.set_cons_succ]
        simp only [List.nil_append] at oV3 ⊢
        have bB3 : Below W1.heap.size W1 V3 := bB2.grown gV3 (by omega) (fun k e => by cases e; exact Nat.le_refl _)
        have n3 : NumRow V3 (.slice (some ⟨W1.heap.size + 1, 0, none⟩) 1 1) [x171] := num_grown nV2 gV3 (by show some (W1.heap.size + 1) ≠ some W1.heap.size; simp)
        have sV3 := gV3.size
        refine wpAnyH_ready (rs := [5]) (by kernel_rfl) (by simp) ?_
        refine AllReadyH.cons (o := { dst := some 70, op := Op.call { callee := Callee.builtin Builtin.append, args := #[Operand.tmp 68, Operand.tmp 69], argTypes := #[36, 36] }, type := 36, pos := "law.go:83", after := #[{ on := 3, ground := Ground.data }, { on := 4, ground := Ground.data }, { on := 3, ground := Ground.chain }], guard := none }) rfl (fun K hK => ?_) AllReadyH.nil
        refine step_append_nums rfl _ _ rfl W1.heap.size adV3 capV3 a.ks [x171] rfl oV3 _ rfl n3 (by simp; omega) (by omega) ?_
        intro adV4 capV4 V4 oV4 gV4 lV4
        refine hK.out _ _ ?_ (fun hHeld2 => ?_)
        · exact box_grown hHeld gV4 (own_ge oV3 (by omega))
        clear hHeld
        have hHeld := hHeld2
        clear hHeld2
        clear hK K
        try simp only [Act.put, List.setIfInBounds_toArray, List.set_cons_zero, List.set_cons_succ]
        have bBV4 : Below W1.heap.size W1 V4 := bB3.grown gV4 (by have := bB3.size; omega) (fun k e => by cases e; exact own_ge2 oV3)
        refine wpAnyH_ready (rs := [9]) (by kernel_rfl) (by simp) ?_
        refine AllReadyH.cons (o := { dst := some 74, op := Op.slice 36 (Operand.tmp 70) none (some (Operand.tmp 73)) none, type := 36, pos := "law.go:83", after := #[{ on := 5, ground := Ground.data }, { on := 8, ground := Ground.data }], guard := none }) rfl (fun K hK => ?_) AllReadyH.nil
        have hcp : (a.ks.length : Int) ≤ (capV4 : Int) := by
          rcases oV4.2 with ⟨e, _⟩ | ⟨g, c', cur, e, _, _, h4, _⟩
          · cases e
          · simp at e h4; omega
        simp only [List.length_append, List.length_singleton]
        go_simp
        refine hK.out _ _ hHeld (fun hHeld2 => ?_)
        clear hHeld
        have hHeld := hHeld2
        clear hHeld2
        clear hK K
        try simp only [Act.put, List.setIfInBounds_toArray, List.set_cons_zero, List.set_cons_succ]
        refine wpAnyH_take (i := 10) (oi := { dst := some 7, op := Op.assign (Operand.tmp 74), type := 36, pos := "law.go:83", after := #[{ on := 9, ground := Ground.data }, { on := 5, ground := Ground.chain }, { on := 0, ground := Ground.phase }, { on := 1, ground := Ground.phase }, { on := 2, ground := Ground.phase }, { on := 3, ground := Ground.phase }, { on := 4, ground := Ground.phase }, { on := 5, ground := Ground.phase }, { on := 6, ground := Ground.phase }, { on := 7, ground := Ground.phase }, { on := 8, ground := Ground.phase }, { on := 9, ground := Ground.phase }], guard := none }) (v := ?_) rfl (by kernel_rfl) (by kernel_rfl) (by kernel_rfl) (fun _ _ _ h => h) (Or.inl ⟨by rfl, ?_⟩) hHeld ?_
        rotate_left 1
        · (intro w9 hSw; (try dsimp only at hSw); go_simp)
          try with_reducible rfl
        try simp only [Act.put, List.setIfInBounds_toArray, List.set_cons_zero, List.set_cons_succ]
        refine wpAnyH_done (by kernel_rfl) ?_ _
        go_wp2_with fail
        go_meet
        exact ⟨adV4, capV4, rfl, oV4, bBV4⟩
    · go_simp
      refine hK.out _ _ (cell_alloc_old hHeld) (fun hHeld2 => ?_)
      clear hK K
      try simp only [Act.put, List.setIfInBounds_toArray, List.set_cons_zero, List.set_cons_succ]
      clear hHeld
      refine wpAnyH_name fun V1 HV1 => ?_
      have sV1 : V1.heap.size = W1.heap.size + 1 := by rw [HV1.out]; simp
      have gV1 : V1.heap[W1.heap.size]? = some (.cells #[.int .u64 171] 31 (0, 0)) := by rw [HV1.out]; exact hb_new W1 _
      have bV1 : Below W1.heap.size W1 V1 := by rw [HV1.out]; exact ((Below.refl _ _).alloc (Nat.le_refl _) _).drew
      replace hHeld : V1.cell? ⟨w.heap.size, 34, none⟩ = some (.slice adk a.ks.length capk) := by rw [HV1.out]; exact hHeld2
      clear hHeld2
      have nV1 : NumRow V1 (.slice (some ⟨W1.heap.size, 0, none⟩) 1 1) [x171] := num_one gV1
      have bB1 : Below W1.heap.size W1 V1 := bV1
      refine wpAnyH_ready (rs := [0]) (by kernel_rfl) (by simp) ?_
      refine AllReadyH.cons (o := { dst := some 65, op := Op.buildSlice 36 0 #[], type := 36, pos := "law.go:83", after := #[], guard := none }) rfl (fun K hK => ?_) AllReadyH.nil
      go_simp
      refine hK.out _ _ (cell_alloc_old hHeld) (fun hHeld2 => ?_)
      clear hK K
      try simp only [Act.put, List.setIfInBounds_toArray, List.set_cons_zero, List.set_cons_succ]
      clear hHeld
      refine wpAnyH_name fun V2 HV2 => ?_
      have sV2 : V2.heap.size = V1.heap.size + 1 := by rw [HV2.out]; simp
      have gV2 : V2.heap[V1.heap.size]? = some (.cells #[] 31 (0, 0)) := by rw [HV2.out]; exact hb_new V1 _
      have bV2 : Below V1.heap.size V1 V2 := by rw [HV2.out]; exact (Below.refl _ _).alloc (Nat.le_refl _) _
      replace hHeld : V2.cell? ⟨w.heap.size, 34, none⟩ = some (.slice adk a.ks.length capk) := by rw [HV2.out]; exact hHeld2
      clear hHeld2
      have wV2 : V2.ownsRow W1.heap.size 31 1 (.slice (some ⟨W1.heap.size + 1, 0, none⟩) 0 0) 0 [] := ⟨rfl, .inr ⟨W1.heap.size + 1, 0, #[], rfl, Nat.le_succ _, (by rw [← sV1]; exact gV2), Nat.le_refl _, Nat.zero_le _, rfl, rfl⟩⟩
      have bB2 : Below W1.heap.size W1 V2 := bB1.trans (bV2.mono (by omega))
      have k2 : NumRow V2 (.slice adk a.ks.length capk) a.ks := hkW.below bB2
      have n2 : NumRow V2 (.slice (some ⟨W1.heap.size, 0, none⟩) 1 1) [x171] := nV1.below bV2
      refine wpAnyH_ready (rs := [3]) (by kernel_rfl) (by simp) ?_
      refine AllReadyH.cons (o := { dst := some 68, op := Op.call { callee := Callee.builtin Builtin.append, args := #[Operand.tmp 65, Operand.tmp 67], argTypes := #[36, 36] }, type := 36, pos := "law.go:83", after := #[{ on := 0, ground := Ground.data }, { on := 2, ground := Ground.data }], guard := none }) rfl (fun K hK => ?_) AllReadyH.nil
      refine step_append_nums rfl _ _ rfl W1.heap.size ⟨W1.heap.size + 1, 0, none⟩ 0 [] a.ks rfl wV2 _ rfl k2 (by simp; omega) (by omega) ?_
      intro adV3 capV3 V3 oV3 gV3 lV3
      refine hK.out _ _ ?_ (fun hHeld2 => ?_)
      · exact box_grown hHeld gV3 (by show w.heap.size ≠ W1.heap.size + 1; omega)
      clear hHeld
      have hHeld := hHeld2
      clear hHeld2
      clear hK K
      try simp only [Act.put, List.setIfInBounds_toArray, List.set_cons_zero, List.set_cons_succ]
      simp only [List.nil_append] at oV3 ⊢
      have bB3 : Below W1.heap.size W1 V3 := bB2.grown gV3 (by omega) (fun k e => by cases e; exact Nat.le_succ _)
      have n3 : NumRow V3 (.slice (some ⟨W1.heap.size, 0, none⟩) 1 1) [x171] := num_grown n2 gV3 (by show some W1.heap.size ≠ some (W1.heap.size + 1); simp)
      have sV3 := gV3.size
      refine wpAnyH_ready (rs := [5]) (by kernel_rfl) (by simp) ?_
      refine AllReadyH.cons (o := { dst := some 70, op := Op.call { callee := Callee.builtin Builtin.append, args := #[Operand.tmp 68, Operand.tmp 69], argTypes := #[36, 36] }, type := 36, pos := "law.go:83", after := #[{ on := 3, ground := Ground.data }, { on := 4, ground := Ground.data }, { on := 3, ground := Ground.chain }], guard := none }) rfl (fun K hK => ?_) AllReadyH.nil
      refine step_append_nums rfl _ _ rfl W1.heap.size adV3 capV3 a.ks [x171] rfl oV3 _ rfl n3 (by simp; omega) (by omega) ?_
      intro adV4 capV4 V4 oV4 gV4 lV4
      refine hK.out _ _ ?_ (fun hHeld2 => ?_)
      · exact box_grown hHeld gV4 (own_ge oV3 (by omega))
      clear hHeld
      have hHeld := hHeld2
      clear hHeld2
      clear hK K
      try simp only [Act.put, List.setIfInBounds_toArray, List.set_cons_zero, List.set_cons_succ]
      have bBV4 : Below W1.heap.size W1 V4 := bB3.grown gV4 (by have := bB3.size; omega) (fun k e => by cases e; exact own_ge2 oV3)
      refine wpAnyH_ready (rs := [9]) (by kernel_rfl) (by simp) ?_
      refine AllReadyH.cons (o := { dst := some 74, op := Op.slice 36 (Operand.tmp 70) none (some (Operand.tmp 73)) none, type := 36, pos := "law.go:83", after := #[{ on := 5, ground := Ground.data }, { on := 8, ground := Ground.data }], guard := none }) rfl (fun K hK => ?_) AllReadyH.nil
      have hcp : (a.ks.length : Int) ≤ (capV4 : Int) := by
        rcases oV4.2 with ⟨e, _⟩ | ⟨g, c', cur, e, _, _, h4, _⟩
        · cases e
        · simp at e h4; omega
      simp only [List.length_append, List.length_singleton]
      go_simp
      refine hK.out _ _ hHeld (fun hHeld2 => ?_)
      clear hHeld
      have hHeld := hHeld2
      clear hHeld2
      clear hK K
      try simp only [Act.put, List.setIfInBounds_toArray, List.set_cons_zero, List.set_cons_succ]
      refine wpAnyH_take (i := 10) (oi := { dst := some 7, op := Op.assign (Operand.tmp 74), type := 36, pos := "law.go:83", after := #[{ on := 9, ground := Ground.data }, { on := 5, ground := Ground.chain }, { on := 0, ground := Ground.phase }, { on := 1, ground := Ground.phase }, { on := 2, ground := Ground.phase }, { on := 3, ground := Ground.phase }, { on := 4, ground := Ground.phase }, { on := 5, ground := Ground.phase }, { on := 6, ground := Ground.phase }, { on := 7, ground := Ground.phase }, { on := 8, ground := Ground.phase }, { on := 9, ground := Ground.phase }], guard := none }) (v := ?_) rfl (by kernel_rfl) (by kernel_rfl) (by kernel_rfl) (fun _ _ _ h => h) (Or.inl ⟨by rfl, ?_⟩) hHeld ?_
      rotate_left 1
      · (intro w9 hSw; (try dsimp only at hSw); go_simp)
        try with_reducible rfl
      try simp only [Act.put, List.setIfInBounds_toArray, List.set_cons_zero, List.set_cons_succ]
      refine wpAnyH_done (by kernel_rfl) ?_ _
      go_wp2_with fail
      go_meet
      exact ⟨adV4, capV4, rfl, oV4, bBV4⟩
  case rest =>
    obtain ⟨ad, cap, rfl, hown, hbW⟩ := hcut
    obtain ⟨g, cur, rfl, hge, hgc, hcl, hcap⟩ := row_of hown
    have hbwc : Below w.heap.size w wc := hb0.trans (hbW.mono hb0.size)
    have H1 := Lib.hid (H.out.below hbwc)
    have hbxc : Hid (wc.heap[w.heap.size]? = some (actO a)) := (hbW.block _ hsz).trans hbx
    have hnF := Lib.hid (pairF_box H.out (Nat.le_refl _))
    have HFl : Hid (∀ j, F j → j < w.heap.size) := fun j hj => by obtain ⟨_, _, _, _, _, _, S⟩ := H.out.st; exact S.lt j hj
    have HGl : Hid (∀ j, G j → j < w.heap.size) := H.out.rf.lt
    have hsl : a.ks.length < (a.ks ++ [x171]).length := by simp
    have hgv : NumRow wc (.slice (some ⟨g, 0, none⟩) a.ks.length cap) a.ks := ⟨_, _, rfl, fun i k hi => ⟨g, 0, rfl, by
      rw [Nat.zero_add, cell_of hgc]
      exact hcl i k (by rw [List.getElem?_append_left (List.getElem?_eq_some_iff.1 hi).1]; exact hi)⟩⟩
    have HGC := Lib.hid hgc; clear hgc
    have HCL := Lib.hid hcl; clear hcl
    have HGV := Lib.hid hgv; clear hgv
    have HKW := Lib.hid hkw; clear hkw
    have HAP := Lib.hid hap; clear hap
    have HOWN := Lib.hid hown; clear hown
    have HBW := Lib.hid hbW; clear hbW
    have hcap2 : (a.ks.length : Int) + 1 ≤ (cap : Int) := by simp at hcap; omega
    clear hkW hbx hc34 hcap
    go_wp2_with fail
    refine (Sweep_any H1.out.st _ a.ks HGV.out (by omega) HLn.out).mono ?_
    rintro e w2 ⟨rfl, hS2, hF2⟩
    have hbx2 : Hid (w2.heap[w.heap.size]? = some (actO a)) := (hF2.block _ (hb_lt hbxc.out) hnF.out.1).trans hbxc.out
    have hc2 : w2.cell? ⟨w.heap.size, 34, none⟩ = some (.slice adk a.ks.length capk) := by rw [(ABox.of hbx2.out).c34, ekv]
    have hk2 : NumRow w2 (.slice adk a.ks.length capk) a.ks := num_fr (num_fr HKW.out (Fr.of_below (S := F) hbwc) (fun hne b o hb hf => by have := (HAP.out hne b o _ _ (ekv.trans (by rw [hb]))).1; exact this hf)) hF2 (fun hne b o hb hf => by have := (HAP.out hne b o _ _ (ekv.trans (by rw [hb]))).1; exact this hf)
    have hR2 := H1.out.rf.fr hF2 (fun j hg hf => H1.out.ap j hf hg)
    have HK2 := Lib.hid hk2; clear hk2
    have HR2 := Lib.hid hR2; clear hR2
    have HS2 := Lib.hid hS2; clear hS2
    have HF2 := Lib.hid hF2; clear hF2
    obtain ⟨N, hN⟩ : ∃ N, (sweepG L a.ks).length = N := ⟨_, rfl⟩
    have hNl : N ≤ 1000000 := by rw [← hN]; exact Nat.le_trans (goneBy_le _ _) (Nat.le_trans (liveL_le L) HLn.out)
    rw [hN]
    have HN := Lib.hid hN; clear hN
    go_wp2_with fail
    refine (RSweep_any HR2.out HLn.out _ a.ks HK2.out (by omega) (fun p => by have := H.out.pn p; have := H.out.hn; omega) (fun hne j hj b o hex => by
      obtain ⟨nn, c, e⟩ := hex
      intro hb
      subst hb
      exact (HAP.out hne b o _ _ (ekv.trans e)).2 hj)).mono ?_
    rw [HN.out]
    rintro e w3 ⟨rfl, hR3, hF3⟩
    have hbx3 : Hid (w3.heap[w.heap.size]? = some (actO a)) := (hF3.block _ (hb_lt hbx2.out) hnF.out.2).trans hbx2.out
    have hk3 : Hid (NumRow w3 (.slice adk a.ks.length capk) a.ks) := num_fr HK2.out hF3 (fun hne b o hb hf => by have := (HAP.out hne b o _ _ (ekv.trans (by rw [hb]))).2; exact this hf)
    have hgc3 : Hid (w3.heap[g]? = some (.cells cur 31 (0, 0))) :=
      (hF3.block g (Nat.lt_of_lt_of_le (hb_lt HGC.out) HF2.out.size) (fun hh => by have := HGl.out g hh; omega)).trans ((HF2.out.block g (hb_lt HGC.out) (fun hh => by have := HFl.out g hh; omega)).trans HGC.out)
    have HR3 := Lib.hid hR3; clear hR3
    have HF3 := Lib.hid hF3; clear hF3
    have h171 : w3.cell? ⟨g, a.ks.length, none⟩ = some (.int .u64 171) := by
      rw [cell_of hgc3.out]
      exact HCL.out a.ks.length x171 (by rw [List.getElem?_append_right (Nat.le_refl _)]; simp)
    go_wp2_with fail
    clear h171 hc2
    go_loopg [9] (a.ks.length) (fun gg vi wr => ∃ i, vi = .int .i64 (i : Nat) ∧ gg + i = a.ks.length ∧ (∃ cur', wr.heap[g]? = some (.cells cur' 31 (0, 0)) ∧ ∀ (j : Nat) (k : U64), i ≤ j → a.ks[j]? = some k → cur'[j]? = some (.int .u64 (k.1 : Int))) ∧ Below W1.heap.size w3 wr)
    case atStart => exact ⟨0, rfl, by simp, ⟨cur, hgc3.out, fun j k _ hj => HCL.out j k (by rw [List.getElem?_append_left (List.getElem?_eq_some_iff.1 hj).1]; exact hj)⟩, Below.refl3 _ _ (by have := HF2.out.size; have := HF3.out.size; have := HBW.out.size; omega)⟩
    case round =>
      obtain ⟨i, rfl, hg1, ⟨cur', hcc, hcv⟩, hbr⟩ := hrel
      have HG := Lib.hid hg1; clear hg1
      by_cases hi : i < a.ks.length
      · have hi' : (i : Int) < (a.ks.length : Int) := by omega
        obtain ⟨k, hkk⟩ : ∃ k, a.ks[i]? = some k := ⟨a.ks[i], List.getElem?_eq_getElem hi⟩
        have hbx4 : wr.heap[w.heap.size]? = some (actO a) := (hbr.block _ hsz).trans hbx3.out
        have hc4 : wr.cell? ⟨w.heap.size, 34, none⟩ = some (.slice adk a.ks.length capk) := by rw [(ABox.of hbx4).c34, ekv]
        obtain ⟨ad5, cap5, e5, hrow5⟩ := hk3.out
        obtain ⟨bb, o, e6, hck⟩ := hrow5 i k hkk
        have e7 : ad5 = adk := by simp at e5; exact e5.1.symm
        subst e7
        have hbb : bb < W1.heap.size := by
          obtain ⟨ad8, cap8, e8, hrow8⟩ := HKW.out
          obtain ⟨b8, o8, e9, hc9⟩ := hrow8 i k hkk
          have e10 : ad8 = ad5 := by simp at e8; exact e8.1.symm
          rw [e10, e6] at e9
          have := cell_lt hc9
          cases e9; simp at this; omega
        subst e6
        have hck4 : wr.cell? ⟨bb, o + i, none⟩ = some (.int .u64 (k.1 : Int)) := (hbr.cell (p := ⟨bb, o + i, none⟩) hbb).trans hck
        have hcg : wr.cell? ⟨g, i, none⟩ = some (.int .u64 (k.1 : Int)) := (cell_of hcc).trans (hcv i k (Nat.le_refl _) hkk)
        have hfg : wr.frozen? ⟨g, i, none⟩ = false := frozen_of hcc
        have hic : (i : Int) < (cap : Int) := by omega
        have HKK := Lib.hid hkk; clear hkk
        have HCC := Lib.hid hcc; clear hcc
        have HCV := Lib.hid hcv; clear hcv
        have HBR := Lib.hid hbr; clear hbr
        clear hrow5 e5 hck
        go_wp2_with fail
        go_quiet (fail)
        go_wp2_with fail
        go_roundg (gk - 1)
        case measure => have := HG.out; omega
        case rel =>
          refine ⟨i + 1, by simp, by have := HG.out; omega, ⟨_, hb_setCell_same (hb_drewN HCC.out nq) _, fun j k' hj hk' => ?_⟩, ?_⟩
          · rw [Array.getElem?_setIfInBounds_ne (by omega)]
            exact HCV.out j k' (by omega) hk'
          · have hb9 : Below W1.heap.size w3 (wr.drewN nq) := ⟨HBR.out.os, HBR.out.tape, HBR.out.output, HBR.out.size, HBR.out.block⟩
            exact below_cell hb9 hge _ _
      · have hi' : ¬ (i : Int) < (a.ks.length : Int) := by omega
        have HBR := Lib.hid hbr; clear hbr
        go_wp2_with fail
        go_ret
        obtain ⟨ok1, ok2, ok3⟩ := sweep_ok (ks := a.ks) H.out.dz H.out.pn HLn.out
        have hsz0 := hb0.size
        have hS3 : StoreL w3 sb log (sweepL L a.ks) F := HS2.out.kept HF3.out.size (fun j hj => HF3.out.block j (by have := HFl.out j hj; have := HBW.out.size; have := HF2.out.size; omega) (fun hg => H.out.ap j hj hg))
        have hin : ∀ j, j < w.heap.size → wr.heap[j]? = w3.heap[j]? := fun j hj => HBR.out.block j (by omega)
        refine ⟨rfl, sweepL L a.ks, F, G, ⟨hS3.kept HBR.out.size (fun j hj => hin j (HFl.out j hj)), HR3.out.kept HBR.out.size (fun j hj => hin j (HGl.out j hj)), H.out.ap, ok1, fun q => Nat.le_succ_of_le (ok2 q), by rw [ok3]; have := H.out.ln; omega, H.out.hl, hn⟩, fun _ h => .inl h, fun _ h => .inl h, ?_⟩
        exact ((((Fr.of_below (S := fun j => F j ∨ G j) hbwc).trans HF2.out (fun _ h => h) (fun j _ h => .inl h)).trans HF3.out (fun _ h => h) (fun j _ h => .inr h)).trans (fr_of_below3 (S := fun j => F j ∨ G j) HBR.out) (fun _ h => h) (fun j hj h => by omega))
end
end Go.Proofs.Ytoigddekipjkcaa
