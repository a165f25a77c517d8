/- massiflaw5.act: a push, a node brought back; what turns nothing. -/
import Derived.Deep.RegionWith
import Derived.Test.YtoigddekipjkcaaAct
namespace Go.Proofs.Ytoigddekipjkcaa
set_option linter.all false
open Go Go.RowKit Go.Proofs Go.Maps
theorem ABox.range {w : World} {b : Nat} {a : ActL} (h : w.heap[b]? = some (actO a)) : w.rangeAt b 2 (encH a.h).toList := by
  have := World.rangeAt_of_block (w := w) (b := b) h 2 32
  rw [show 2 + 32 = 34 from rfl, encA_h] at this
  exact this
theorem infoH : (Try.prog.info? 30).map (·.size) = some 32 := by kernel_rfl
section
variable {w : World} {sb rb log n : Nat} {L : List NL} {F G : Nat → Prop}
set_option maxRecDepth 100000 in
theorem act_1 (h : Pair w sb rb log L F G n) (hn : n + 1 ≤ 1000) (a : ActL) (ha : a.what = 1) :
    Calls Try.prog 37 #[.pointer (some ⟨sb, 0, none⟩), .pointer (some ⟨rb, 0, none⟩), .agg (encA a)] w (ActPost w sb rb log (n + 1) F G) := by
  have HLn := Lib.hid h.lenLe
  have H := Lib.hid h; clear h
  go_enter Try.func37, Try.ntmps37
  obtain ⟨W1, hW1⟩ : ∃ W1, W1 = w.alloc (.cells (encA a) 65) := ⟨_, rfl⟩
  have hb0 : Below w.heap.size w W1 := by rw [hW1]; exact (Below.refl _ _).alloc (Nat.le_refl _) _
  have hbx : W1.heap[w.heap.size]? = some (actO a) := by rw [hW1]; exact hb_new w _
  have AB := ABox.of hbx
  have hc0 := AB.c0
  rw [ha] at hc0
  have hc1 := AB.c1
  have hc2 := AB.c2
  have hc34 := AB.c34
  rw [hW1] at hc0
  go_upto_region 3 with fail
  rw [← hW1]
  have hbd : Below w.heap.size w W1.drew := hb0.drew
  have H1 := Lib.hid (H.out.below hbd)
  have hsz : w.heap.size < W1.heap.size := hb_lt hbx
  have hnF := Lib.hid (pairF_box H.out (Nat.le_refl _))
  have hbxd := Lib.hid (show W1.drew.heap[w.heap.size]? = some (actO a) from hbx)
  have hpn := Lib.hid (show pinsL L a.p.1 ≤ 4611686018427387904 from by have := H.out.pn a.p.1; have := H.out.hn; omega)
  have hpa := Lib.hid (show ∀ p, pinsL L p ≤ 4611686018427387904 from fun p => by have := H.out.pn p; have := H.out.hn; omega)
  have HL2 := Lib.hid (show L.length ≤ 4611686018427387904 from by have := HLn.out; omega)
  clear hW1 hc0 hc1 hc34 AB
  have hr1 := ABox.range hbx
  clear hbx
  have hui := Try.underlying30
  have hii : (Try.prog.info? 30).map (·.size) = some (encH a.h).toList.length := by rw [infoH]; simp [size_encH]
  clear hr1 hui hii
  refine wp_region_held_drew (S := fun w' => rowAt w' ⟨w.heap.size, 2, none⟩ 32 = some (encH a.h)) (by kernel_rfl) ?_ (fun hHeld => ?_)
  · exact hc2
  refine wpAnyH_take (i := 0) (oi := { dst := some 14, op := Op.move (Operand.tmp 0), type := 49, pos := "law.go:73", after := #[], guard := none }) (v := ?_) rfl (by kernel_rfl) (by kernel_rfl) (by kernel_rfl) (fun _ _ _ h => h) (Or.inl ⟨by rfl, ?_⟩) hHeld ?_
  rotate_left 1
  · (intro w9 hSw; (try dsimp only at hSw); go_simp)
    try with_reducible rfl
  try simp only [Act.put, List.setIfInBounds_toArray, List.set_cons_zero, List.set_cons_succ]
  refine wpAnyH_take (i := 1) (oi := { dst := some 15, op := Op.fieldAddr 65 (Operand.tmp 5) 2, type := 0, pos := "law.go:73", after := #[], guard := none }) (v := ?_) rfl (by kernel_rfl) (by kernel_rfl) (by kernel_rfl) (fun _ _ _ h => h) (Or.inl ⟨by rfl, ?_⟩) hHeld ?_
  rotate_left 1
  · (intro w9 hSw; (try dsimp only at hSw); go_simp)
    try with_reducible rfl
  try simp only [Act.put, List.setIfInBounds_toArray, List.set_cons_zero, List.set_cons_succ]
  refine wpAnyH_take (i := 2) (oi := { dst := some 16, op := Op.load 30 (Operand.tmp 15), type := 30, pos := "law.go:73", after := #[{ on := 1, ground := Ground.data }], guard := none }) (v := ?_) rfl (by kernel_rfl) (by kernel_rfl) (by kernel_rfl) (fun _ _ _ h => h) (Or.inl ⟨by rfl, ?_⟩) hHeld ?_
  rotate_left 1
  · (intro w9 hSw; (try dsimp only at hSw); go_simp)
    try with_reducible rfl
  try simp only [Act.put, List.setIfInBounds_toArray, List.set_cons_zero, List.set_cons_succ]
  refine wpAnyH_take (i := 4) (oi := { dst := some 18, op := Op.move (Operand.tmp 1), type := 60, pos := "law.go:73", after := #[], guard := none }) (v := ?_) rfl (by kernel_rfl) (by kernel_rfl) (by kernel_rfl) (fun _ _ _ h => h) (Or.inl ⟨by rfl, ?_⟩) hHeld ?_
  rotate_left 1
  · (intro w9 hSw; (try dsimp only at hSw); go_simp)
    try with_reducible rfl
  try simp only [Act.put, List.setIfInBounds_toArray, List.set_cons_zero, List.set_cons_succ]
  refine wpAnyH_take (i := 5) (oi := { dst := some 19, op := Op.fieldAddr 65 (Operand.tmp 5) 2, type := 0, pos := "law.go:73", after := #[], guard := none }) (v := ?_) rfl (by kernel_rfl) (by kernel_rfl) (by kernel_rfl) (fun _ _ _ h => h) (Or.inl ⟨by rfl, ?_⟩) hHeld ?_
  rotate_left 1
  · (intro w9 hSw; (try dsimp only at hSw); go_simp)
    try with_reducible rfl
  try simp only [Act.put, List.setIfInBounds_toArray, List.set_cons_zero, List.set_cons_succ]
  refine wpAnyH_take (i := 6) (oi := { dst := some 20, op := Op.load 30 (Operand.tmp 19), type := 30, pos := "law.go:73", after := #[{ on := 5, ground := Ground.data }], guard := none }) (v := ?_) rfl (by kernel_rfl) (by kernel_rfl) (by kernel_rfl) (fun _ _ _ h => h) (Or.inl ⟨by rfl, ?_⟩) hHeld ?_
  rotate_left 1
  · (intro w9 hSw; (try dsimp only at hSw); go_simp)
    try with_reducible rfl
  try simp only [Act.put, List.setIfInBounds_toArray, List.set_cons_zero, List.set_cons_succ]
  refine wpAnyH_ready (rs := [3]) (by kernel_rfl) (by simp) ?_
  refine AllReadyH.cons (o := { dst := some 17, op := Op.call { callee := Callee.value (Operand.func 33), args := #[Operand.tmp 14, Operand.tmp 16], argTypes := #[49, 30] }, type := 31, pos := "law.go:73", after := #[{ on := 0, ground := Ground.data }, { on := 2, ground := Ground.data }], guard := none }) rfl (fun K hK => ?_) AllReadyH.nil
  go_simp
  refine (Push_any H1.out.st a.h HL2.out).mono ?_; rintro e w2 ⟨rfl, F2, hS2, hT2⟩; have hbx2 := (hT2.2.block _ (hb_lt hbxd.out) hnF.out.1).trans hbxd.out; have hx2 := (ABox.of hbx2).c2; have hR2 := H1.out.rf.fr hT2.2 (fun j hg hf => H1.out.ap j hf hg)
  go_wp2_with fail
  refine hK.out _ _ ?_ (fun hHeld => ?_)
  · exact hx2
  clear hK K
  try simp only [Act.put, List.setIfInBounds_toArray, List.set_cons_zero, List.set_cons_succ]
  refine wpAnyH_ready (rs := [7]) (by kernel_rfl) (by simp) ?_
  refine AllReadyH.cons (o := { dst := some 21, op := Op.call { callee := Callee.value (Operand.func 50), args := #[Operand.tmp 18, Operand.tmp 20], argTypes := #[60, 30] }, type := 31, pos := "law.go:73", after := #[{ on := 4, ground := Ground.data }, { on := 6, ground := Ground.data }, { on := 3, ground := Ground.chain }], guard := none }) rfl (fun K hK => ?_) AllReadyH.nil
  go_simp
  refine (RPush_any hR2 HLn.out a.h).mono ?_; rintro e w3 ⟨rfl, G2, hR3, hT3⟩; have hbx3 := (hT3.2.block _ (hb_lt hbx2) hnF.out.2).trans hbx2; have hx3 := (ABox.of hbx3).c2
  go_wp2_with fail
  refine hK.out _ _ ?_ (fun hHeld => ?_)
  · exact hx3
  clear hK K
  try simp only [Act.put, List.setIfInBounds_toArray, List.set_cons_zero, List.set_cons_succ]
  refine wpAnyH_take (i := 8) (oi := { dst := some 22, op := Op.binOp BinOp.eql 31 (Operand.tmp 17) (Operand.tmp 21) 31, type := 4, pos := "law.go:73", after := #[{ on := 3, ground := Ground.data }, { on := 7, ground := Ground.data }], guard := none }) (v := ?_) rfl (by kernel_rfl) (by kernel_rfl) (by kernel_rfl) (fun _ _ _ h => h) (Or.inl ⟨by rfl, ?_⟩) hHeld ?_
  rotate_left 1
  · (intro w9 hSw; (try dsimp only at hSw); go_simp)
    try with_reducible rfl
  try simp only [Act.put, List.setIfInBounds_toArray, List.set_cons_zero, List.set_cons_succ]
  refine wpAnyH_take (i := 9) (oi := { dst := some 6, op := Op.assign (Operand.tmp 22), type := 4, pos := "law.go:73", after := #[{ on := 8, ground := Ground.data }, { on := 7, ground := Ground.chain }, { on := 0, ground := Ground.phase }, { on := 1, ground := Ground.phase }, { on := 2, ground := Ground.phase }, { on := 3, ground := Ground.phase }, { on := 4, ground := Ground.phase }, { on := 5, ground := Ground.phase }, { on := 6, ground := Ground.phase }, { on := 7, ground := Ground.phase }, { on := 8, ground := Ground.phase }], guard := none }) (v := ?_) rfl (by kernel_rfl) (by kernel_rfl) (by kernel_rfl) (fun _ _ _ h => h) (Or.inl ⟨by rfl, ?_⟩) hHeld ?_
  rotate_left 1
  · (intro w9 hSw; (try dsimp only at hSw); go_simp)
    try with_reducible rfl
  try simp only [Act.put, List.setIfInBounds_toArray, List.set_cons_zero, List.set_cons_succ]
  refine wpAnyH_done (by kernel_rfl) ?_ _
  have HS2 := Lib.hid hS2; clear hS2
  have HF2 := Lib.hid hT2; clear hT2
  have HR3 := Lib.hid hR3; clear hR3
  have HF3 := Lib.hid hT3; clear hT3
  go_wp2_with fail
  go_ret
  obtain ⟨ok1, ok2⟩ := push_ok (x := a.h) H.out.dz H.out.pn
  exact ⟨rfl, act_end hbd H1.out HS2.out HF2.out HR3.out HF3.out ok1 (fun q => Nat.le_succ_of_le (ok2 q)) (by rw [List.length_append]; have := H.out.ln; simp; omega) hn⟩
set_option maxRecDepth 100000 in
theorem act_7 (h : Pair w sb rb log L F G n) (hn : n + 1 ≤ 1000) (a : ActL) (ha : a.what = 7) :
    Calls Try.prog 37 #[.pointer (some ⟨sb, 0, none⟩), .pointer (some ⟨rb, 0, none⟩), .agg (encA a)] w (ActPost w sb rb log (n + 1) F G) := by
  have HLn := Lib.hid h.lenLe
  have H := Lib.hid h; clear h
  go_enter Try.func37, Try.ntmps37
  obtain ⟨W1, hW1⟩ : ∃ W1, W1 = w.alloc (.cells (encA a) 65) := ⟨_, rfl⟩
  have hb0 : Below w.heap.size w W1 := by rw [hW1]; exact (Below.refl _ _).alloc (Nat.le_refl _) _
  have hbx : W1.heap[w.heap.size]? = some (actO a) := by rw [hW1]; exact hb_new w _
  have AB := ABox.of hbx
  have hc0 := AB.c0
  rw [ha] at hc0
  have hc1 := AB.c1
  have hc2 := AB.c2
  have hc34 := AB.c34
  rw [hW1] at hc0
  go_upto_region 24 with fail
  rw [← hW1]
  have hbd : Below w.heap.size w W1.drew := hb0.drew
  have H1 := Lib.hid (H.out.below hbd)
  have hsz : w.heap.size < W1.heap.size := hb_lt hbx
  have hnF := Lib.hid (pairF_box H.out (Nat.le_refl _))
  have hbxd := Lib.hid (show W1.drew.heap[w.heap.size]? = some (actO a) from hbx)
  have hpn := Lib.hid (show pinsL L a.p.1 ≤ 4611686018427387904 from by have := H.out.pn a.p.1; have := H.out.hn; omega)
  have hpa := Lib.hid (show ∀ p, pinsL L p ≤ 4611686018427387904 from fun p => by have := H.out.pn p; have := H.out.hn; omega)
  have HL2 := Lib.hid (show L.length ≤ 4611686018427387904 from by have := HLn.out; omega)
  clear hW1 hc0 hc34 AB hbx
  obtain ⟨E, hE⟩ : ∃ E, backE L a.p.1 = E := ⟨_, rfl⟩
  have HE := Lib.hid hE; clear hE
  refine wp_region_held_drew (S := fun w' => w'.cell? ⟨w.heap.size, 1, none⟩ = some (.int .u64 (a.p.1 : Int)) ∧ rowAt w' ⟨w.heap.size, 2, none⟩ 32 = some (encH a.h)) (by kernel_rfl) ?_ (fun hHeld => ?_)
  · exact ⟨hc1, hc2⟩
  refine wpAnyH_take (i := 0) (oi := { dst := some 122, op := Op.move (Operand.tmp 0), type := 49, pos := "law.go:95", after := #[], guard := none }) (v := ?_) rfl (by kernel_rfl) (by kernel_rfl) (by kernel_rfl) (fun _ _ _ h => h) (Or.inl ⟨by rfl, ?_⟩) hHeld ?_
  rotate_left 1
  · (intro w9 hSw; (try dsimp only at hSw); go_simp)
    try with_reducible rfl
  try simp only [Act.put, List.setIfInBounds_toArray, List.set_cons_zero, List.set_cons_succ]
  refine wpAnyH_take (i := 1) (oi := { dst := some 123, op := Op.fieldAddr 65 (Operand.tmp 5) 1, type := 0, pos := "law.go:95", after := #[], guard := none }) (v := ?_) rfl (by kernel_rfl) (by kernel_rfl) (by kernel_rfl) (fun _ _ _ h => h) (Or.inl ⟨by rfl, ?_⟩) hHeld ?_
  rotate_left 1
  · (intro w9 hSw; (try dsimp only at hSw); go_simp)
    try with_reducible rfl
  try simp only [Act.put, List.setIfInBounds_toArray, List.set_cons_zero, List.set_cons_succ]
  refine wpAnyH_take (i := 2) (oi := { dst := some 124, op := Op.load 31 (Operand.tmp 123), type := 31, pos := "law.go:95", after := #[{ on := 1, ground := Ground.data }], guard := none }) (v := ?_) rfl (by kernel_rfl) (by kernel_rfl) (by kernel_rfl) (fun _ _ _ h => h) (Or.inl ⟨by rfl, ?_⟩) hHeld ?_
  rotate_left 1
  · (intro w9 hSw; (try dsimp only at hSw); go_simp)
    try with_reducible rfl
  try simp only [Act.put, List.setIfInBounds_toArray, List.set_cons_zero, List.set_cons_succ]
  refine wpAnyH_take (i := 3) (oi := { dst := some 125, op := Op.fieldAddr 65 (Operand.tmp 5) 2, type := 0, pos := "law.go:95", after := #[], guard := none }) (v := ?_) rfl (by kernel_rfl) (by kernel_rfl) (by kernel_rfl) (fun _ _ _ h => h) (Or.inl ⟨by rfl, ?_⟩) hHeld ?_
  rotate_left 1
  · (intro w9 hSw; (try dsimp only at hSw); go_simp)
    try with_reducible rfl
  try simp only [Act.put, List.setIfInBounds_toArray, List.set_cons_zero, List.set_cons_succ]
  refine wpAnyH_take (i := 4) (oi := { dst := some 126, op := Op.load 30 (Operand.tmp 125), type := 30, pos := "law.go:95", after := #[{ on := 3, ground := Ground.data }], guard := none }) (v := ?_) rfl (by kernel_rfl) (by kernel_rfl) (by kernel_rfl) (fun _ _ _ h => h) (Or.inl ⟨by rfl, ?_⟩) hHeld ?_
  rotate_left 1
  · (intro w9 hSw; (try dsimp only at hSw); go_simp)
    try with_reducible rfl
  try simp only [Act.put, List.setIfInBounds_toArray, List.set_cons_zero, List.set_cons_succ]
  refine wpAnyH_take (i := 6) (oi := { dst := some 128, op := Op.move (Operand.tmp 1), type := 60, pos := "law.go:95", after := #[], guard := none }) (v := ?_) rfl (by kernel_rfl) (by kernel_rfl) (by kernel_rfl) (fun _ _ _ h => h) (Or.inl ⟨by rfl, ?_⟩) hHeld ?_
  rotate_left 1
  · (intro w9 hSw; (try dsimp only at hSw); go_simp)
    try with_reducible rfl
  try simp only [Act.put, List.setIfInBounds_toArray, List.set_cons_zero, List.set_cons_succ]
  refine wpAnyH_take (i := 7) (oi := { dst := some 129, op := Op.fieldAddr 65 (Operand.tmp 5) 1, type := 0, pos := "law.go:95", after := #[], guard := none }) (v := ?_) rfl (by kernel_rfl) (by kernel_rfl) (by kernel_rfl) (fun _ _ _ h => h) (Or.inl ⟨by rfl, ?_⟩) hHeld ?_
  rotate_left 1
  · (intro w9 hSw; (try dsimp only at hSw); go_simp)
    try with_reducible rfl
  try simp only [Act.put, List.setIfInBounds_toArray, List.set_cons_zero, List.set_cons_succ]
  refine wpAnyH_take (i := 8) (oi := { dst := some 130, op := Op.load 31 (Operand.tmp 129), type := 31, pos := "law.go:95", after := #[{ on := 7, ground := Ground.data }], guard := none }) (v := ?_) rfl (by kernel_rfl) (by kernel_rfl) (by kernel_rfl) (fun _ _ _ h => h) (Or.inl ⟨by rfl, ?_⟩) hHeld ?_
  rotate_left 1
  · (intro w9 hSw; (try dsimp only at hSw); go_simp)
    try with_reducible rfl
  try simp only [Act.put, List.setIfInBounds_toArray, List.set_cons_zero, List.set_cons_succ]
  refine wpAnyH_take (i := 9) (oi := { dst := some 131, op := Op.fieldAddr 65 (Operand.tmp 5) 2, type := 0, pos := "law.go:95", after := #[], guard := none }) (v := ?_) rfl (by kernel_rfl) (by kernel_rfl) (by kernel_rfl) (fun _ _ _ h => h) (Or.inl ⟨by rfl, ?_⟩) hHeld ?_
  rotate_left 1
  · (intro w9 hSw; (try dsimp only at hSw); go_simp)
    try with_reducible rfl
  try simp only [Act.put, List.setIfInBounds_toArray, List.set_cons_zero, List.set_cons_succ]
  refine wpAnyH_take (i := 10) (oi := { dst := some 132, op := Op.load 30 (Operand.tmp 131), type := 30, pos := "law.go:95", after := #[{ on := 9, ground := Ground.data }], guard := none }) (v := ?_) rfl (by kernel_rfl) (by kernel_rfl) (by kernel_rfl) (fun _ _ _ h => h) (Or.inl ⟨by rfl, ?_⟩) hHeld ?_
  rotate_left 1
  · (intro w9 hSw; (try dsimp only at hSw); go_simp)
    try with_reducible rfl
  try simp only [Act.put, List.setIfInBounds_toArray, List.set_cons_zero, List.set_cons_succ]
  refine wpAnyH_ready (rs := [5]) (by kernel_rfl) (by simp) ?_
  refine AllReadyH.cons (o := { dst := some 127, op := Op.call { callee := Callee.value (Operand.func 57), args := #[Operand.tmp 122, Operand.tmp 124, Operand.tmp 126], argTypes := #[49, 31, 30] }, type := 38, pos := "law.go:95", after := #[{ on := 0, ground := Ground.data }, { on := 2, ground := Ground.data }, { on := 4, ground := Ground.data }], guard := none }) rfl (fun K hK => ?_) AllReadyH.nil
  go_simp
  refine (Back_any H1.out.st a.p.1 a.h a.p.2 HL2.out).mono ?_; rw [HE.out]; rintro e w2 ⟨rfl, F2, hS2, hT2⟩; have hbx2 := (hT2.2.block _ (hb_lt hbxd.out) hnF.out.1).trans hbxd.out; have hx2 := (ABox.of hbx2).c2; have hj2 := (ABox.of hbx2).c1; have hR2 := H1.out.rf.fr hT2.2 (fun j hg hf => H1.out.ap j hf hg)
  go_wp2_with fail
  refine hK.out _ _ ?_ (fun hHeld => ?_)
  · exact ⟨hj2, hx2⟩
  clear hK K
  try simp only [Act.put, List.setIfInBounds_toArray, List.set_cons_zero, List.set_cons_succ]
  refine wpAnyH_ready (rs := [11]) (by kernel_rfl) (by simp) ?_
  refine AllReadyH.cons (o := { dst := some 133, op := Op.call { callee := Callee.value (Operand.func 58), args := #[Operand.tmp 128, Operand.tmp 130, Operand.tmp 132], argTypes := #[60, 31, 30] }, type := 38, pos := "law.go:95", after := #[{ on := 6, ground := Ground.data }, { on := 8, ground := Ground.data }, { on := 10, ground := Ground.data }, { on := 5, ground := Ground.chain }], guard := none }) rfl (fun K hK => ?_) AllReadyH.nil
  go_simp
  refine (RBack_any hR2 HLn.out a.p.1 a.p.2 a.h (fun k => H1.out.dz a.p.1 k)).mono ?_; rw [HE.out]; rintro e w3 ⟨rfl, hR3, hF3⟩; have hbx3 := (hF3.block _ (hb_lt hbx2) hnF.out.2).trans hbx2; have hx3 := (ABox.of hbx3).c2; have hj3 := (ABox.of hbx3).c1
  go_wp2_with fail
  refine hK.out _ _ ?_ (fun hHeld => ?_)
  · exact ⟨hj3, hx3⟩
  clear hK K
  try simp only [Act.put, List.setIfInBounds_toArray, List.set_cons_zero, List.set_cons_succ]
  refine wpAnyH_take (i := 12) (oi := { dst := some 134, op := Op.binOp BinOp.eql 38 (Operand.tmp 127) (Operand.tmp 133) 38, type := 4, pos := "law.go:95", after := #[{ on := 5, ground := Ground.data }, { on := 11, ground := Ground.data }], guard := none }) (v := ?_) rfl (by kernel_rfl) (by kernel_rfl) (by kernel_rfl) (fun _ _ _ h => h) (Or.inl ⟨by rfl, ?_⟩) hHeld ?_
  rotate_left 1
  · (intro w9 hSw; (try dsimp only at hSw); go_simp)
    try with_reducible rfl
  try simp only [Act.put, List.setIfInBounds_toArray, List.set_cons_zero, List.set_cons_succ]
  refine wpAnyH_take (i := 13) (oi := { dst := some 6, op := Op.assign (Operand.tmp 134), type := 4, pos := "law.go:95", after := #[{ on := 12, ground := Ground.data }, { on := 11, ground := Ground.chain }, { on := 0, ground := Ground.phase }, { on := 1, ground := Ground.phase }, { on := 2, ground := Ground.phase }, { on := 3, ground := Ground.phase }, { on := 4, ground := Ground.phase }, { on := 5, ground := Ground.phase }, { on := 6, ground := Ground.phase }, { on := 7, ground := Ground.phase }, { on := 8, ground := Ground.phase }, { on := 9, ground := Ground.phase }, { on := 10, ground := Ground.phase }, { on := 11, ground := Ground.phase }, { on := 12, ground := Ground.phase }], guard := none }) (v := ?_) rfl (by kernel_rfl) (by kernel_rfl) (by kernel_rfl) (fun _ _ _ h => h) (Or.inl ⟨by rfl, ?_⟩) hHeld ?_
  rotate_left 1
  · (intro w9 hSw; (try dsimp only at hSw); go_simp)
    try with_reducible rfl
  try simp only [Act.put, List.setIfInBounds_toArray, List.set_cons_zero, List.set_cons_succ]
  refine wpAnyH_done (by kernel_rfl) ?_ _
  have HS2 := Lib.hid hS2; clear hS2
  have HF2 := Lib.hid hT2; clear hT2
  have HR3 := Lib.hid hR3; clear hR3
  have HF3 := Lib.hid hF3; clear hF3
  go_wp2_with fail
  go_ret
  obtain ⟨ok1, ok2, ok3⟩ := back_ok (p := a.p.1) (x := a.h) H.out.dz H.out.pn
  exact ⟨rfl, act_end hbd H1.out HS2.out HF2.out HR3.out (turns_same HF3.out) ok1 (fun q => Nat.le_succ_of_le (ok2 q)) (by rw [ok3]; have := H.out.ln; omega) hn⟩
set_option maxRecDepth 100000 in
theorem act_2 (h : Pair w sb rb log L F G n) (hn : n + 1 ≤ 1000) (a : ActL) (ha : a.what = 2) :
    Calls Try.prog 37 #[.pointer (some ⟨sb, 0, none⟩), .pointer (some ⟨rb, 0, none⟩), .agg (encA a)] w (ActPost w sb rb log (n + 1) F G) := by
  have HLn := Lib.hid h.lenLe
  have H := Lib.hid h; clear h
  go_enter Try.func37, Try.ntmps37
  obtain ⟨W1, hW1⟩ : ∃ W1, W1 = w.alloc (.cells (encA a) 65) := ⟨_, rfl⟩
  have hb0 : Below w.heap.size w W1 := by rw [hW1]; exact (Below.refl _ _).alloc (Nat.le_refl _) _
  have hbx : W1.heap[w.heap.size]? = some (actO a) := by rw [hW1]; exact hb_new w _
  have AB := ABox.of hbx
  have hc0 := AB.c0
  rw [ha] at hc0
  have hc1 := AB.c1
  have hc2 := AB.c2
  have hc34 := AB.c34
  rw [hW1] at hc0
  rw [hW1] at hc1
  have H1 := Lib.hid (H.out.below (show Below w.heap.size w (w.alloc (.cells (encA a) 65)) by rw [← hW1]; exact hb0))
  have HB0 := Lib.hid (show Below w.heap.size w (w.alloc (.cells (encA a) 65)) by rw [← hW1]; exact hb0)
  clear hc2 hc34 AB hbx hb0 hW1
  go_wp2_with fail
  refine (alike_any H1.out a.p.1 a.p.2).mono ?_
  rintro e w2 ⟨rfl, hb2⟩
  go_wp2_with fail
  go_ret
  exact ⟨rfl, act_same H.out (HB0.out.trans (hb2.mono HB0.out.size)) (Nat.le_succ _) hn⟩
set_option maxRecDepth 100000 in
theorem act_9 (h : Pair w sb rb log L F G n) (hn : n + 1 ≤ 1000) (a : ActL) (ha : a.what = 9) :
    Calls Try.prog 37 #[.pointer (some ⟨sb, 0, none⟩), .pointer (some ⟨rb, 0, none⟩), .agg (encA a)] w (ActPost w sb rb log (n + 1) F G) := by
  have HLn := Lib.hid h.lenLe
  have H := Lib.hid h; clear h
  go_enter Try.func37, Try.ntmps37
  obtain ⟨W1, hW1⟩ : ∃ W1, W1 = w.alloc (.cells (encA a) 65) := ⟨_, rfl⟩
  have hb0 : Below w.heap.size w W1 := by rw [hW1]; exact (Below.refl _ _).alloc (Nat.le_refl _) _
  have hbx : W1.heap[w.heap.size]? = some (actO a) := by rw [hW1]; exact hb_new w _
  have AB := ABox.of hbx
  have hc0 := AB.c0
  rw [ha] at hc0
  have hc1 := AB.c1
  have hc2 := AB.c2
  have hc34 := AB.c34
  rw [hW1] at hc0
  rw [hW1] at hc1
  have H1 := Lib.hid (H.out.below (show Below w.heap.size w (w.alloc (.cells (encA a) 65)) by rw [← hW1]; exact hb0))
  have HB0 := Lib.hid (show Below w.heap.size w (w.alloc (.cells (encA a) 65)) by rw [← hW1]; exact hb0)
  clear hc2 hc34 AB hbx hb0 hW1
  go_wp2_with fail
  refine (numbers_any H1.out).mono ?_
  rintro e w2 ⟨rfl, rfl⟩
  go_wp2_with fail
  go_ret
  exact ⟨rfl, act_same H.out HB0.out (Nat.le_succ _) hn⟩
set_option maxRecDepth 100000 in
theorem act_10 (h : Pair w sb rb log L F G n) (hn : n + 1 ≤ 1000) (a : ActL) (ha : a.what = 10) :
    Calls Try.prog 37 #[.pointer (some ⟨sb, 0, none⟩), .pointer (some ⟨rb, 0, none⟩), .agg (encA a)] w (ActPost w sb rb log (n + 1) F G) := by
  have HLn := Lib.hid h.lenLe
  have H := Lib.hid h; clear h
  go_enter Try.func37, Try.ntmps37
  obtain ⟨W1, hW1⟩ : ∃ W1, W1 = w.alloc (.cells (encA a) 65) := ⟨_, rfl⟩
  have hb0 : Below w.heap.size w W1 := by rw [hW1]; exact (Below.refl _ _).alloc (Nat.le_refl _) _
  have hbx : W1.heap[w.heap.size]? = some (actO a) := by rw [hW1]; exact hb_new w _
  have AB := ABox.of hbx
  have hc0 := AB.c0
  rw [ha] at hc0
  have hc1 := AB.c1
  have hc2 := AB.c2
  have hc34 := AB.c34
  rw [hW1] at hc0
  rw [hW1] at hc1
  have H1 := Lib.hid (H.out.below (show Below w.heap.size w (w.alloc (.cells (encA a) 65)) by rw [← hW1]; exact hb0))
  have HB0 := Lib.hid (show Below w.heap.size w (w.alloc (.cells (encA a) 65)) by rw [← hW1]; exact hb0)
  clear hc2 hc34 AB hbx hb0 hW1
  go_wp2_with fail
  refine (told_any H1.out 0 (by omega)).mono ?_
  rintro e w2 ⟨rfl, hb2⟩
  have H2 := Lib.hid (H1.out.below hb2)
  have HB2 := Lib.hid (HB0.out.trans (hb2.mono HB0.out.size))
  go_wp2_with fail
  refine (told_any H2.out 0 (by omega)).mono ?_
  rintro e w3 ⟨rfl, hb3⟩
  go_wp2_with fail
  go_ret
  exact ⟨rfl, act_same H.out (HB2.out.trans (hb3.mono HB2.out.size)) (Nat.le_succ _) hn⟩
set_option maxRecDepth 100000 in
theorem act_11 (h : Pair w sb rb log L F G n) (hn : n + 1 ≤ 1000) (a : ActL) (ha : a.what = 11) :
    Calls Try.prog 37 #[.pointer (some ⟨sb, 0, none⟩), .pointer (some ⟨rb, 0, none⟩), .agg (encA a)] w (ActPost w sb rb log (n + 1) F G) := by
  have HLn := Lib.hid h.lenLe
  have H := Lib.hid h; clear h
  go_enter Try.func37, Try.ntmps37
  obtain ⟨W1, hW1⟩ : ∃ W1, W1 = w.alloc (.cells (encA a) 65) := ⟨_, rfl⟩
  have hb0 : Below w.heap.size w W1 := by rw [hW1]; exact (Below.refl _ _).alloc (Nat.le_refl _) _
  have hbx : W1.heap[w.heap.size]? = some (actO a) := by rw [hW1]; exact hb_new w _
  have AB := ABox.of hbx
  have hc0 := AB.c0
  rw [ha] at hc0
  have hc1 := AB.c1
  have hc2 := AB.c2
  have hc34 := AB.c34
  rw [hW1] at hc0
  rw [hW1] at hc1
  have H1 := Lib.hid (H.out.below (show Below w.heap.size w (w.alloc (.cells (encA a) 65)) by rw [← hW1]; exact hb0))
  have HB0 := Lib.hid (show Below w.heap.size w (w.alloc (.cells (encA a) 65)) by rw [← hW1]; exact hb0)
  clear hc2 hc34 AB hbx hb0 hW1
  go_wp2_with fail
  have e9 : ((a.p.1 : Int) % 9) = ((a.p.1 % 9 : Nat) : Int) := by omega
  rw [e9]; clear e9
  refine (told_any H1.out (a.p.1 % 9) (by omega)).mono ?_
  rintro e w2 ⟨rfl, hb2⟩
  have H2 := Lib.hid (H1.out.below hb2)
  have HB2 := Lib.hid (HB0.out.trans (hb2.mono HB0.out.size))
  go_wp2_with fail
  refine (told_any H2.out 0 (by omega)).mono ?_
  rintro e w3 ⟨rfl, hb3⟩
  go_wp2_with fail
  go_ret
  exact ⟨rfl, act_same H.out (HB2.out.trans (hb3.mono HB2.out.size)) (Nat.le_succ _) hn⟩
set_option maxRecDepth 100000 in
theorem act_0 (h : Pair w sb rb log L F G n) (hn : n + 1 ≤ 1000) (a : ActL) (ha : a.what < 1 ∨ 11 < a.what) (hb1 : -9223372036854775808 ≤ a.what) (hb2 : a.what ≤ 9223372036854775807) :
    Calls Try.prog 37 #[.pointer (some ⟨sb, 0, none⟩), .pointer (some ⟨rb, 0, none⟩), .agg (encA a)] w (ActPost w sb rb log (n + 1) F G) := by
  have HLn := Lib.hid h.lenLe
  have H := Lib.hid h; clear h
  go_enter Try.func37, Try.ntmps37
  obtain ⟨W1, hW1⟩ : ∃ W1, W1 = w.alloc (.cells (encA a) 65) := ⟨_, rfl⟩
  have hb0 : Below w.heap.size w W1 := by rw [hW1]; exact (Below.refl _ _).alloc (Nat.le_refl _) _
  have hbx : W1.heap[w.heap.size]? = some (actO a) := by rw [hW1]; exact hb_new w _
  have AB := ABox.of hbx
  have hc0 := AB.c0
  have hc1 := AB.c1
  have hc2 := AB.c2
  have hc34 := AB.c34
  rw [hW1] at hc0
  obtain ⟨x, hx⟩ : ∃ x, a.what = x := ⟨_, rfl⟩
  rw [hx] at hc0 ha hb1 hb2
  have x1 : (x == 1) = false := by simp; omega
  have x2 : (x == 2) = false := by simp; omega
  have x3 : (x == 3) = false := by simp; omega
  have x4 : (x == 4) = false := by simp; omega
  have x5 : (x == 5) = false := by simp; omega
  have x6 : (x == 6) = false := by simp; omega
  have x7 : (x == 7) = false := by simp; omega
  have x8 : (x == 8) = false := by simp; omega
  have x9 : (x == 9) = false := by simp; omega
  have x10 : (x == 10) = false := by simp; omega
  have x11 : (x == 11) = false := by simp; omega
  have HB0 := Lib.hid (show Below w.heap.size w (w.alloc (.cells (encA a) 65)) by rw [← hW1]; exact hb0)
  clear hc1 hc2 hc34 AB hbx hb0 hW1 ha hx hb1 hb2
  go_upto_if 12 with (fail)
  go_upto_if 23 with (fail)
  go_upto_if 30 with (fail)
  go_upto_if 41 with (fail)
  go_upto_if 52 with (fail)
  go_upto_if 63 with (fail)
  go_upto_if 120 with (fail)
  go_upto_if 135 with (fail)
  go_upto_if 146 with (fail)
  go_upto_if 151 with (fail)
  go_upto_if 161 with (fail)
  go_wp2_with fail
  go_ret
  exact ⟨rfl, act_same H.out HB0.out (Nat.le_succ _) hn⟩
end
end Go.Proofs.Ytoigddekipjkcaa
