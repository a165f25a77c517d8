/- massiflaw22.FindPlays: the walk. -/
import Derived.Test.YtoigddekipjkcaaFAct
namespace Go.Proofs.Ytoigddekipjkcaa
set_option linter.all false
open Go Go.RowKit Go.Proofs Go.Maps
open Go.ChangeMaps (setBlock)
set_option maxRecDepth 100000 in
set_option maxHeartbeats 4000000 in
theorem FindPlays_good (v : Value) (al : List FAct) (w : World) (hr : FActRow w v al) (hlm : al.length ≤ maxLen) :
    Calls Try.prog 3 #[v] w fun e w' => e = .returned (.bool true) ∧ Below w.heap.size w w' := by
  have hr' := hr
  obtain ⟨ad, cap, rfl, _⟩ := hr'
  have HR := Lib.hid hr; clear hr
  by_cases hl : 200 < al.length
  · have hl' : (200 : Int) < (al.length : Int) := by omega
    go_enter Try.func3, Try.ntmps3
    go_wp2_with fail
    go_ret
    exact ⟨rfl, Below.refl _ _⟩
  have hl' : ¬ (200 : Int) < (al.length : Int) := by omega
  have hL : al.length ≤ 200 := by omega
  clear hl hlm
  go_enter Try.func3, Try.ntmps3
  go_wp2_with fail
  refine (FNew_any w).mono ?_
  rintro e w1 ⟨fb, F1, rfl, hS, hF, hb1⟩
  have HS1 := Lib.hid hS; clear hS
  have HF1 := Lib.hid hF; clear hF
  have HB1 := Lib.hid hb1; clear hb1
  have HP0 : Hid (FPair w (w1.alloc (.cells #[.slice none 0 0] 28)) fb w1.heap.size [] F1 (fun j => j = w1.heap.size) 0) := by
    refine ⟨HS1.out.below ((Below.refl _ _).alloc (Nat.le_refl _) _), ⟨.slice none 0 0, hb_new w1 _, World.ownsRow_nil _ _ _ _, rfl, (fun j hj => by cases hj), (fun j hj => by simp [hj])⟩, fun j hj e => ?_, HF1.out, fun j e => by rw [e]; exact HB1.out.size, Nat.le_refl _, HB1.out.alloc HB1.out.size _⟩
    have := HS1.out.lt j hj; omega
  clear HS1 HF1 HB1
  go_wp2_with fail
  obtain ⟨rb, hrb⟩ : ∃ rb, w1.heap.size = rb := ⟨_, rfl⟩
  obtain ⟨W1, hW1⟩ : ∃ W1, w1.alloc (.cells #[.slice none 0 0] 28) = W1 := ⟨_, rfl⟩
  rw [hrb, hW1] at HP0
  rw [hrb, hW1]
  clear hrb hW1
  go_loopg [5] (al.length) (fun g vi wr => ∃ i L F G, vi = .int .i64 (i : Nat) ∧ g + i = al.length ∧ FPair w wr fb rb L F G i)
  case atStart => exact ⟨0, [], F1, _, rfl, by simp, HP0.out⟩
  case round =>
    obtain ⟨i, L, F, G, rfl, hg, hp⟩ := hrel
    have HG := Lib.hid hg; clear hg
    have HP := Lib.hid hp; clear hp
    by_cases hi : i < al.length
    · have hi' : (i : Int) < (al.length : Int) := by omega
      obtain ⟨a, ha⟩ : ∃ a, al[i]? = some a := ⟨al[i], List.getElem?_eq_getElem hi⟩
      obtain ⟨b, o, rfl, hrw, hw1, hw2⟩ := (HR.out.below HP.out.bw).at ha
      clear ha
      go_upto_region 11 with fail
      refine wp_name fun W2 HW2 => ?_
      have hb2 : Below wr.heap.size wr W2 := by rw [HW2.out]; exact below_putRow ((Below.refl _ wr).alloc (Nat.le_refl _) _) (Nat.le_refl _) _
      have hB2 : FBox W2 wr.heap.size a := by
        rw [HW2.out]
        have hn := hb_putRow_same (off := 0) (hb_new wr (.cells (encF zF) 33)) (encF a).toList
        have e0 : splice (encF zF) 0 (encF a).toList = encF a := by
          apply Array.ext'
          have hz := size_encF zF
          have hq := size_encF a
          simp [splice, List.drop_of_length_le, hz, hq]
        rw [e0] at hn
        exact FBox.of hn
      clear HW2
      have HP2 := Lib.hid (HP.out.below hb2)
      obtain ⟨bx, hbx⟩ : ∃ bx, wr.heap.size = bx := ⟨_, rfl⟩
      have HNF : Hid (∀ j, F j ∨ G j → j < bx) := fun j hj => by rw [← hbx]; exact hj.elim (HP.out.f.lt j) (HP.out.r.lt j)
      rw [hbx] at hB2
      rw [hbx]
      clear hb2 hbx hrw HP
      have c0 := hB2.c0
      have c1 := hB2.c1
      have c33 := hB2.c33
      have hbl := hB2.lt
      have HX := Lib.hid hB2; clear hB2
      have hLl : L.length ≤ 200 := by have := HP2.out.ln; omega
      have hL6 : L.length ≤ 1000000 := by omega
      by_cases e1 : a.what = 1
      · rw [e1] at c0
        clear hw1 hw2
        have HPd : Hid (FPair w W2.drew fb rb L F G i) := HP2.out.below ⟨rfl, rfl, rfl, Nat.le_refl _, fun _ _ => rfl⟩
        have hnf : ¬ F bx := fun h => by have := HNF.out bx (.inl h); omega
        have hng : ¬ G bx := fun h => by have := HNF.out bx (.inr h); omega
        go_wp2_with fail
        refine wp_region_held_drew (S := fun w' => rowAt w' ⟨bx, 1, none⟩ 32 = some (encH a.leaf)) (by kernel_rfl) ?_ (fun hHeld => ?_)
        · exact c1
        refine wpAnyH_take (i := 0) (oi := { dst := some 34, op := Op.move (Operand.tmp 3), type := 23, pos := "law.go:86", after := #[], guard := none }) (v := ?_) rfl (by kernel_rfl) (by kernel_rfl) (by kernel_rfl) (fun _ _ _ h => h) (Or.inl ⟨by rfl, ?_⟩) hHeld ?_
        rotate_left 1
        · (intro w9 hSw; (try dsimp only at hSw); go_simp)
          try with_reducible rfl
        try simp only [Act.put, List.setIfInBounds_toArray, List.set_cons_zero, List.set_cons_succ]
        refine wpAnyH_take (i := 1) (oi := { dst := some 35, op := Op.fieldAddr 33 (Operand.tmp 6) 1, type := 0, pos := "law.go:86", after := #[], guard := none }) (v := ?_) rfl (by kernel_rfl) (by kernel_rfl) (by kernel_rfl) (fun _ _ _ h => h) (Or.inl ⟨by rfl, ?_⟩) hHeld ?_
        rotate_left 1
        · (intro w9 hSw; (try dsimp only at hSw); go_simp)
          try with_reducible rfl
        try simp only [Act.put, List.setIfInBounds_toArray, List.set_cons_zero, List.set_cons_succ]
        refine wpAnyH_take (i := 2) (oi := { dst := some 36, op := Op.load 30 (Operand.tmp 35), type := 30, pos := "law.go:86", after := #[{ on := 1, ground := Ground.data }], guard := none }) (v := ?_) rfl (by kernel_rfl) (by kernel_rfl) (by kernel_rfl) (fun _ _ _ h => h) (Or.inl ⟨by rfl, ?_⟩) hHeld ?_
        rotate_left 1
        · (intro w9 hSw; (try dsimp only at hSw); go_simp)
          try with_reducible rfl
        try simp only [Act.put, List.setIfInBounds_toArray, List.set_cons_zero, List.set_cons_succ]
        refine wpAnyH_take (i := 4) (oi := { dst := some 38, op := Op.move (Operand.tmp 4), type := 25, pos := "law.go:86", after := #[], guard := none }) (v := ?_) rfl (by kernel_rfl) (by kernel_rfl) (by kernel_rfl) (fun _ _ _ h => h) (Or.inl ⟨by rfl, ?_⟩) hHeld ?_
        rotate_left 1
        · (intro w9 hSw; (try dsimp only at hSw); go_simp)
          try with_reducible rfl
        try simp only [Act.put, List.setIfInBounds_toArray, List.set_cons_zero, List.set_cons_succ]
        refine wpAnyH_take (i := 5) (oi := { dst := some 39, op := Op.fieldAddr 33 (Operand.tmp 6) 1, type := 0, pos := "law.go:86", after := #[], guard := none }) (v := ?_) rfl (by kernel_rfl) (by kernel_rfl) (by kernel_rfl) (fun _ _ _ h => h) (Or.inl ⟨by rfl, ?_⟩) hHeld ?_
        rotate_left 1
        · (intro w9 hSw; (try dsimp only at hSw); go_simp)
          try with_reducible rfl
        try simp only [Act.put, List.setIfInBounds_toArray, List.set_cons_zero, List.set_cons_succ]
        refine wpAnyH_take (i := 6) (oi := { dst := some 40, op := Op.load 30 (Operand.tmp 39), type := 30, pos := "law.go:86", after := #[{ on := 5, ground := Ground.data }], guard := none }) (v := ?_) rfl (by kernel_rfl) (by kernel_rfl) (by kernel_rfl) (fun _ _ _ h => h) (Or.inl ⟨by rfl, ?_⟩) hHeld ?_
        rotate_left 1
        · (intro w9 hSw; (try dsimp only at hSw); go_simp)
          try with_reducible rfl
        try simp only [Act.put, List.setIfInBounds_toArray, List.set_cons_zero, List.set_cons_succ]
        refine wpAnyH_ready (rs := [3]) (by kernel_rfl) (by simp) ?_
        refine AllReadyH.cons (o := { dst := some 37, op := Op.call { callee := Callee.value (Operand.func 10), args := #[Operand.tmp 34, Operand.tmp 36], argTypes := #[23, 30] }, type := 31, pos := "law.go:86", after := #[{ on := 0, ground := Ground.data }, { on := 2, ground := Ground.data }], guard := none }) rfl (fun K hK => ?_) AllReadyH.nil
        go_simp
        refine (FAdd_any HPd.out.f (by omega) a.leaf).mono ?_
        rintro e w3 ⟨rfl, F3, hF3, hT3⟩
        have hx3 : rowAt w3 ⟨bx, 1, none⟩ 32 = some (encH a.leaf) := (rowAt_block (a := ⟨bx, 1, none⟩) (hT3.2.block bx hbl hnf) 32).trans c1
        have hR3 := HPd.out.rf hT3
        go_wp2_with fail
        refine hK.out _ _ ?_ (fun hHeld => ?_)
        · exact hx3
        clear hK K
        try simp only [Act.put, List.setIfInBounds_toArray, List.set_cons_zero, List.set_cons_succ]
        refine wpAnyH_ready (rs := [7]) (by kernel_rfl) (by simp) ?_
        refine AllReadyH.cons (o := { dst := some 41, op := Op.call { callee := Callee.value (Operand.func 11), args := #[Operand.tmp 38, Operand.tmp 40], argTypes := #[25, 30] }, type := 31, pos := "law.go:86", after := #[{ on := 4, ground := Ground.data }, { on := 6, ground := Ground.data }, { on := 3, ground := Ground.chain }], guard := none }) rfl (fun K hK => ?_) AllReadyH.nil
        go_simp
        refine (RFAdd_any hR3 (by omega) a.leaf).mono ?_
        rintro e w4 ⟨rfl, G4, hG4, hT4⟩
        have hx4 : rowAt w4 ⟨bx, 1, none⟩ 32 = some (encH a.leaf) := (rowAt_block (a := ⟨bx, 1, none⟩) (hT4.2.block bx (rowAt_lt (a := ⟨bx, 1, none⟩) hx3) hng) 32).trans hx3
        go_wp2_with fail
        refine hK.out _ _ ?_ (fun hHeld => ?_)
        · exact hx4
        clear hK K
        try simp only [Act.put, List.setIfInBounds_toArray, List.set_cons_zero, List.set_cons_succ]
        refine wpAnyH_take (i := 8) (oi := { dst := some 42, op := Op.binOp BinOp.neq 31 (Operand.tmp 37) (Operand.tmp 41) 31, type := 4, pos := "law.go:86", after := #[{ on := 3, ground := Ground.data }, { on := 7, ground := Ground.data }], guard := none }) (v := ?_) rfl (by kernel_rfl) (by kernel_rfl) (by kernel_rfl) (fun _ _ _ h => h) (Or.inl ⟨by rfl, ?_⟩) hHeld ?_
        rotate_left 1
        · (intro w9 hSw; (try dsimp only at hSw); go_simp)
          try with_reducible rfl
        try simp only [Act.put, List.setIfInBounds_toArray, List.set_cons_zero, List.set_cons_succ]
        refine wpAnyH_done (by kernel_rfl) ?_ _
        have HP4 : Hid (FPair w w4 fb rb (L ++ [a.leaf]) F3 G4 (i + 1)) := HPd.out.turn hF3 hT3 hG4 hT4 (by have := HP2.out.ln; simp; omega)
        clear hF3 hT3 hG4 hT4 hR3
        go_wp2_with fail
        go_roundg (gk - 1)
        case measure => have := HG.out; omega
        case rel => exact ⟨i + 1, _, F3, G4, by simp, by have := HG.out; omega, HP4.out⟩
      by_cases e2 : a.what = 2
      · rw [e2] at c0
        clear hw1 hw2
        have HPd : Hid (FPair w W2.drew fb rb L F G i) := HP2.out.below ⟨rfl, rfl, rfl, Nat.le_refl _, fun _ _ => rfl⟩
        have hnf : ¬ F bx := fun h => by have := HNF.out bx (.inl h); omega
        have hng : ¬ G bx := fun h => by have := HNF.out bx (.inr h); omega
        have hx2 : rowAt W2.drew ⟨bx, 1, none⟩ 32 = some (encH a.leaf) := c1
        have hbl2 : bx < W2.drew.heap.size := hbl
        go_wp2_with fail
        refine wp_region_held_drew (S := fun w' => rowAt w' ⟨bx, 1, none⟩ 32 = some (encH a.leaf)) (by kernel_rfl) ?_ (fun hHeld => ?_)
        · exact c1
        refine wpAnyH_take (i := 0) (oi := { dst := some 45, op := Op.move (Operand.tmp 3), type := 23, pos := "law.go:90", after := #[], guard := none }) (v := ?_) rfl (by kernel_rfl) (by kernel_rfl) (by kernel_rfl) (fun _ _ _ h => h) (Or.inl ⟨by rfl, ?_⟩) hHeld ?_
        rotate_left 1
        · (intro w9 hSw; (try dsimp only at hSw); go_simp)
          try with_reducible rfl
        try simp only [Act.put, List.setIfInBounds_toArray, List.set_cons_zero, List.set_cons_succ]
        refine wpAnyH_take (i := 1) (oi := { dst := some 46, op := Op.fieldAddr 33 (Operand.tmp 6) 1, type := 0, pos := "law.go:90", after := #[], guard := none }) (v := ?_) rfl (by kernel_rfl) (by kernel_rfl) (by kernel_rfl) (fun _ _ _ h => h) (Or.inl ⟨by rfl, ?_⟩) hHeld ?_
        rotate_left 1
        · (intro w9 hSw; (try dsimp only at hSw); go_simp)
          try with_reducible rfl
        try simp only [Act.put, List.setIfInBounds_toArray, List.set_cons_zero, List.set_cons_succ]
        refine wpAnyH_take (i := 2) (oi := { dst := some 47, op := Op.load 30 (Operand.tmp 46), type := 30, pos := "law.go:90", after := #[{ on := 1, ground := Ground.data }], guard := none }) (v := ?_) rfl (by kernel_rfl) (by kernel_rfl) (by kernel_rfl) (fun _ _ _ h => h) (Or.inl ⟨by rfl, ?_⟩) hHeld ?_
        rotate_left 1
        · (intro w9 hSw; (try dsimp only at hSw); go_simp)
          try with_reducible rfl
        try simp only [Act.put, List.setIfInBounds_toArray, List.set_cons_zero, List.set_cons_succ]
        refine wpAnyH_take (i := 4) (oi := { dst := some 49, op := Op.move (Operand.tmp 3), type := 23, pos := "law.go:90", after := #[], guard := none }) (v := ?_) rfl (by kernel_rfl) (by kernel_rfl) (by kernel_rfl) (fun _ _ _ h => h) (Or.inl ⟨by rfl, ?_⟩) hHeld ?_
        rotate_left 1
        · (intro w9 hSw; (try dsimp only at hSw); go_simp)
          try with_reducible rfl
        try simp only [Act.put, List.setIfInBounds_toArray, List.set_cons_zero, List.set_cons_succ]
        refine wpAnyH_take (i := 5) (oi := { dst := some 50, op := Op.fieldAddr 33 (Operand.tmp 6) 1, type := 0, pos := "law.go:90", after := #[], guard := none }) (v := ?_) rfl (by kernel_rfl) (by kernel_rfl) (by kernel_rfl) (fun _ _ _ h => h) (Or.inl ⟨by rfl, ?_⟩) hHeld ?_
        rotate_left 1
        · (intro w9 hSw; (try dsimp only at hSw); go_simp)
          try with_reducible rfl
        try simp only [Act.put, List.setIfInBounds_toArray, List.set_cons_zero, List.set_cons_succ]
        refine wpAnyH_take (i := 6) (oi := { dst := some 51, op := Op.load 30 (Operand.tmp 50), type := 30, pos := "law.go:90", after := #[{ on := 5, ground := Ground.data }], guard := none }) (v := ?_) rfl (by kernel_rfl) (by kernel_rfl) (by kernel_rfl) (fun _ _ _ h => h) (Or.inl ⟨by rfl, ?_⟩) hHeld ?_
        rotate_left 1
        · (intro w9 hSw; (try dsimp only at hSw); go_simp)
          try with_reducible rfl
        try simp only [Act.put, List.setIfInBounds_toArray, List.set_cons_zero, List.set_cons_succ]
        refine wpAnyH_take (i := 8) (oi := { dst := some 53, op := Op.move (Operand.tmp 4), type := 25, pos := "law.go:90", after := #[], guard := none }) (v := ?_) rfl (by kernel_rfl) (by kernel_rfl) (by kernel_rfl) (fun _ _ _ h => h) (Or.inl ⟨by rfl, ?_⟩) hHeld ?_
        rotate_left 1
        · (intro w9 hSw; (try dsimp only at hSw); go_simp)
          try with_reducible rfl
        try simp only [Act.put, List.setIfInBounds_toArray, List.set_cons_zero, List.set_cons_succ]
        refine wpAnyH_take (i := 9) (oi := { dst := some 54, op := Op.fieldAddr 33 (Operand.tmp 6) 1, type := 0, pos := "law.go:90", after := #[], guard := none }) (v := ?_) rfl (by kernel_rfl) (by kernel_rfl) (by kernel_rfl) (fun _ _ _ h => h) (Or.inl ⟨by rfl, ?_⟩) hHeld ?_
        rotate_left 1
        · (intro w9 hSw; (try dsimp only at hSw); go_simp)
          try with_reducible rfl
        try simp only [Act.put, List.setIfInBounds_toArray, List.set_cons_zero, List.set_cons_succ]
        refine wpAnyH_take (i := 10) (oi := { dst := some 55, op := Op.load 30 (Operand.tmp 54), type := 30, pos := "law.go:90", after := #[{ on := 9, ground := Ground.data }], guard := none }) (v := ?_) rfl (by kernel_rfl) (by kernel_rfl) (by kernel_rfl) (fun _ _ _ h => h) (Or.inl ⟨by rfl, ?_⟩) hHeld ?_
        rotate_left 1
        · (intro w9 hSw; (try dsimp only at hSw); go_simp)
          try with_reducible rfl
        try simp only [Act.put, List.setIfInBounds_toArray, List.set_cons_zero, List.set_cons_succ]
        refine wpAnyH_ready (rs := [3]) (by kernel_rfl) (by simp) ?_
        refine AllReadyH.cons (o := { dst := some 48, op := Op.call { callee := Callee.value (Operand.func 13), args := #[Operand.tmp 45, Operand.tmp 47], argTypes := #[23, 30] }, type := 36, pos := "law.go:90", after := #[{ on := 0, ground := Ground.data }, { on := 2, ground := Ground.data }], guard := none }) rfl (fun K hK => ?_) AllReadyH.nil
        go_simp
        refine (FAt_any HPd.out.f hL6 a.leaf).mono ?_
        rintro e w3 ⟨va, rfl, hu3, hb3⟩
        have hx3 : rowAt w3 ⟨bx, 1, none⟩ 32 = some (encH a.leaf) := (rowAt_block (a := ⟨bx, 1, none⟩) (hb3.block bx (by omega)) 32).trans hx2
        have hs3 := hb3.size
        go_wp2_with fail
        refine hK.out _ _ ?_ (fun hHeld => ?_)
        · exact hx3
        clear hK K
        try simp only [Act.put, List.setIfInBounds_toArray, List.set_cons_zero, List.set_cons_succ]
        refine wpAnyH_ready (rs := [7]) (by kernel_rfl) (by simp) ?_
        refine AllReadyH.cons (o := { dst := some 52, op := Op.call { callee := Callee.value (Operand.func 13), args := #[Operand.tmp 49, Operand.tmp 51], argTypes := #[23, 30] }, type := 36, pos := "law.go:90", after := #[{ on := 4, ground := Ground.data }, { on := 6, ground := Ground.data }, { on := 3, ground := Ground.chain }], guard := none }) rfl (fun K hK => ?_) AllReadyH.nil
        go_simp
        refine (FAt_any (HPd.out.f.below hb3) hL6 a.leaf).mono ?_
        rintro e w4 ⟨vb, rfl, hu4, hb4⟩
        have hx4 : rowAt w4 ⟨bx, 1, none⟩ 32 = some (encH a.leaf) := (rowAt_block (a := ⟨bx, 1, none⟩) (hb4.block bx (by omega)) 32).trans hx3
        have hs4 := hb4.size
        go_wp2_with fail
        refine hK.out _ _ ?_ (fun hHeld => ?_)
        · exact hx4
        clear hK K
        try simp only [Act.put, List.setIfInBounds_toArray, List.set_cons_zero, List.set_cons_succ]
        refine wpAnyH_ready (rs := [11]) (by kernel_rfl) (by simp) ?_
        refine AllReadyH.cons (o := { dst := some 56, op := Op.call { callee := Callee.value (Operand.func 14), args := #[Operand.tmp 53, Operand.tmp 55], argTypes := #[25, 30] }, type := 36, pos := "law.go:90", after := #[{ on := 8, ground := Ground.data }, { on := 10, ground := Ground.data }, { on := 7, ground := Ground.chain }], guard := none }) rfl (fun K hK => ?_) AllReadyH.nil
        go_simp
        refine (RFAt_any ((HPd.out.r.below hb3).below hb4) hL6 a.leaf).mono ?_
        rintro e w5 ⟨vc, rfl, hu5, hb5⟩
        have hx5 : rowAt w5 ⟨bx, 1, none⟩ 32 = some (encH a.leaf) := (rowAt_block (a := ⟨bx, 1, none⟩) (hb5.block bx (by omega)) 32).trans hx4
        have hs5 := hb5.size
        have hua : URow w5 W2.drew.heap.size va (idx L a.leaf) := (hu3.same (fun j hj => hb4.block j (ownsRow_lt hu3 hj).1)).same (fun j hj => hb5.block j (by have := (ownsRow_lt hu3 hj).1; omega))
        have hub : URow w5 W2.drew.heap.size vb (idx L a.leaf) := URow.same (ownsRow_base hu4 hs3) (fun j hj => hb5.block j (ownsRow_lt hu4 hj).1)
        have hab : ∀ j, va.ownBlock = some j → vb.ownBlock ≠ some j := fun j h1 h2 => by have := (ownsRow_lt hu3 h1).1; have := (ownsRow_lt hu4 h2).2; omega
        have hil := idx_length L a.leaf
        go_wp2_with fail
        refine hK.out _ _ ?_ (fun hHeld => ?_)
        · exact hx5
        clear hK K
        try simp only [Act.put, List.setIfInBounds_toArray, List.set_cons_zero, List.set_cons_succ]
        refine wpAnyH_ready (rs := [12]) (by kernel_rfl) (by simp) ?_
        refine AllReadyH.cons (o := { dst := some 57, op := Op.call { callee := Callee.value (Operand.func 12), args := #[Operand.tmp 48, Operand.tmp 52, Operand.tmp 56], argTypes := #[36, 36, 36] }, type := 4, pos := "law.go:90", after := #[{ on := 3, ground := Ground.data }, { on := 7, ground := Ground.data }, { on := 11, ground := Ground.data }, { on := 11, ground := Ground.chain }], guard := none }) rfl (fun K hK => ?_) AllReadyH.nil
        go_simp
        refine (same_any hua hub hu5.num hab (by omega) (by omega)).mono ?_
        rintro e w6 ⟨rfl, hb6⟩
        have hx6 : rowAt w6 ⟨bx, 1, none⟩ 32 = some (encH a.leaf) := (rowAt_block (a := ⟨bx, 1, none⟩) (hb6.block bx (by omega)) 32).trans hx5
        go_wp2_with fail
        refine hK.out _ _ ?_ (fun hHeld => ?_)
        · exact hx6
        clear hK K
        try simp only [Act.put, List.setIfInBounds_toArray, List.set_cons_zero, List.set_cons_succ]
        refine wpAnyH_take (i := 13) (oi := { dst := some 58, op := Op.unOp UnOp.not 4 (Operand.tmp 57), type := 4, pos := "law.go:90", after := #[{ on := 12, ground := Ground.data }], guard := none }) (v := ?_) rfl (by kernel_rfl) (by kernel_rfl) (by kernel_rfl) (fun _ _ _ h => h) (Or.inl ⟨by rfl, ?_⟩) hHeld ?_
        rotate_left 1
        · (intro w9 hSw; (try dsimp only at hSw); go_simp)
          try with_reducible rfl
        try simp only [Act.put, List.setIfInBounds_toArray, List.set_cons_zero, List.set_cons_succ]
        refine wpAnyH_done (by kernel_rfl) ?_ _
        have hbf : Below W2.drew.heap.size W2.drew w6 := ((hb3.trans (hb4.mono hs3)).trans (hb5.mono (by omega))).trans hb6
        have HP6 := Lib.hid ((HPd.out.below hbf).le (Nat.le_succ i))
        clear hu3 hu4 hu5 hua hub hb3 hb4 hb5 hb6 hbf hab
        go_wp2_with fail
        go_roundg (gk - 1)
        case measure => have := HG.out; omega
        case rel => exact ⟨i + 1, L, F, G, by simp, by have := HG.out; omega, HP6.out⟩
      by_cases e3 : a.what = 3
      · rw [e3] at c0
        clear hw1 hw2
        have hiv := a.i.2
        go_wp2_with fail
        refine (FLeaf_any HP2.out.f hL6 a.i.1 hiv).mono ?_
        obtain ⟨lx, hlx⟩ : ∃ x, leafOf L a.i.1 = x := ⟨_, rfl⟩
        obtain ⟨le, hle⟩ : ∃ x, leafE L a.i.1 = x := ⟨_, rfl⟩
        rw [hlx, hle]
        have HLX := Lib.hid hlx; clear hlx
        have HLE := Lib.hid hle; clear hle
        rintro e w3 ⟨rfl, hb3⟩
        have HP3 := Lib.hid (HP2.out.below hb3)
        have c33' : w3.cell? ⟨bx, 33, none⟩ = some (.int .u64 (a.i.1 : Int)) := (hb3.cell (p := ⟨bx, 33, none⟩) hbl).trans c33
        have hbl3 : bx < w3.heap.size := Nat.lt_of_lt_of_le hbl hb3.size
        clear hb3 c33
        go_upto_region 20 with fail
        refine wp_name fun W4 HW4 => ?_
        have hb4 : Below w3.heap.size w3 W4 := by rw [HW4.out]; exact below_putRow ((Below.refl _ _).alloc (Nat.le_refl _) _) (Nat.le_refl _) _
        have hr4 : rowAt W4 ⟨w3.heap.size, 0, none⟩ 32 = some (encH lx) := by rw [HW4.out]; exact rowAt_putRow_same (hb_new w3 _) (size_encH _) (size_encH _)
        clear HW4
        have HP4 := Lib.hid (HP3.out.below hb4)
        have c33 : W4.cell? ⟨bx, 33, none⟩ = some (.int .u64 (a.i.1 : Int)) := (hb4.cell (p := ⟨bx, 33, none⟩) hbl3).trans c33'
        clear hb4
        go_wp2_with fail
        refine (RFLeaf_any HP4.out.r hL6 a.i.1 hiv).mono ?_
        rw [HLX.out, HLE.out]
        rintro e w5 ⟨rfl, hb5⟩
        have HP5 := Lib.hid (HP4.out.below hb5)
        have hr5 : rowAt w5 ⟨w3.heap.size, 0, none⟩ 32 = some (encH lx) := (rowAt_block (a := ⟨w3.heap.size, 0, none⟩) (hb5.block _ (rowAt_lt hr4)) 32).trans hr4
        clear hr4 hb5
        go_upto_region 21 with fail
        refine wp_name fun W6 HW6 => ?_
        have hb6 : Below w5.heap.size w5 W6 := by rw [HW6.out]; exact below_putRow ((Below.refl _ _).alloc (Nat.le_refl _) _) (Nat.le_refl _) _
        have hr6 : rowAt W6 ⟨w5.heap.size, 0, none⟩ 32 = some (encH lx) := by rw [HW6.out]; exact rowAt_putRow_same (hb_new w5 _) (size_encH _) (size_encH _)
        have hr7 : rowAt W6 ⟨w3.heap.size, 0, none⟩ 32 = some (encH lx) := (rowAt_block (a := ⟨w3.heap.size, 0, none⟩) (hb6.block _ (rowAt_lt hr5)) 32).trans hr5
        clear HW6
        have HP6 := Lib.hid ((HP5.out.below hb6).le (Nat.le_succ i))
        clear hb6 hr5
        have heq : ∀ W, (binOp .neq 30 (.agg (encH lx)) (.agg (encH lx))).run Try.prog W = .ok (.bool false) W := fun W => by rw [neq_H]; simp
        have hgd := guard_H
        go_wp2_with fail
        go_roundg (gk - 1)
        case measure => have := HG.out; omega
        case rel => exact ⟨i + 1, L, F, G, by simp, by have := HG.out; omega, HP6.out⟩
      by_cases e4 : a.what = 4
      · rw [e4] at c0
        clear hw1 hw2
        go_wp2_with fail
        refine (tells_any HP2.out.f HP2.out.r (by omega)).mono ?_
        rintro e w3 ⟨rfl, hb3⟩
        have HP3 := Lib.hid ((HP2.out.below hb3).le (Nat.le_succ i))
        clear hb3
        go_wp2_with fail
        go_roundg (gk - 1)
        case measure => have := HG.out; omega
        case rel => exact ⟨i + 1, L, F, G, by simp, by have := HG.out; omega, HP3.out⟩
      by_cases e5 : a.what = 5
      · rw [e5] at c0
        clear hw1 hw2
        have HPd : Hid (FPair w W2.drew fb rb L F G i) := HP2.out.below ⟨rfl, rfl, rfl, Nat.le_refl _, fun _ _ => rfl⟩
        have hnf : ¬ F bx := fun h => by have := HNF.out bx (.inl h); omega
        have hng : ¬ G bx := fun h => by have := HNF.out bx (.inr h); omega
        have hiv := a.i.2
        have hcd : W2.drew.cell? ⟨bx, 33, none⟩ = some (.int .u64 (a.i.1 : Int)) := c33
        go_wp2_with fail
        go_region_held3 (fun w' => w'.cell? ⟨bx, 33, none⟩ = some (.int .u64 (a.i.1 : Int))) (first | exact hk4 | exact hk3 | exact c33 | go_keep)
          (first
            | (go_at_call 18; refine (FCut_any HPd.out.f hL6 a.i.1 hiv).mono ?_; rintro e w3 ⟨rfl, hF3, hf3⟩; have hk3 : w3.cell? ⟨bx, 33, none⟩ = some (.int .u64 (a.i.1 : Int)) := (cell_block (a := ⟨bx, 33, none⟩) (hf3.block bx hbl hnf)).trans hcd; have hT3 : Turns W2.drew w3 F F := ⟨fun j h => .inl h, hf3⟩; have hR3 := HPd.out.rf hT3)
            | (go_at_call 19; refine (RFCut_any hR3 hL6 a.i.1 hiv).mono ?_; rintro e w4 ⟨rfl, G4, hG4, hT4⟩; have hk4 : w4.cell? ⟨bx, 33, none⟩ = some (.int .u64 (a.i.1 : Int)) := (cell_block (a := ⟨bx, 33, none⟩) (hT4.2.block bx (cell_lt hk3) hng)).trans hk3))
        have HP4 : Hid (FPair w w4 fb rb (fcutL L a.i.1) F G4 (i + 1)) := HPd.out.turn hF3 hT3 hG4 hT4 (by have := HP2.out.ln; unfold fcutL; split <;> simp <;> omega)
        clear hF3 hT3 hG4 hT4 hR3 hf3
        go_wp2_with fail
        go_roundg (gk - 1)
        case measure => have := HG.out; omega
        case rel => exact ⟨i + 1, _, F, G4, by simp, by have := HG.out; omega, HP4.out⟩
      · obtain ⟨wh, hwh⟩ : ∃ wh, a.what = wh := ⟨_, rfl⟩
        rw [hwh] at c0 hw1 hw2 e1 e2 e3 e4 e5
        clear hwh
        have d1 : (wh == 1) = false := by simpa using e1
        have d2 : (wh == 2) = false := by simpa using e2
        have d3 : (wh == 3) = false := by simpa using e3
        have d4 : (wh == 4) = false := by simpa using e4
        have d5 : (wh == 5) = false := by simpa using e5
        go_wp2_with fail
        go_roundg (gk - 1)
        case measure => have := HG.out; omega
        case rel => exact ⟨i + 1, L, F, G, by simp, by have := HG.out; omega, HP2.out.le (Nat.le_succ _)⟩
    · have hi' : ¬ (i : Int) < (al.length : Int) := by omega
      have hLl : L.length ≤ 200 := by have := HP.out.ln; have := HG.out; omega
      have hL6 : L.length ≤ 1000000 := by omega
      clear HR HG
      go_wp2_with fail
      go_loopg [11] (L.length) (fun g vi wz => ∃ q, vi = .int .i64 (q : Nat) ∧ g + q = L.length ∧ FPair w wz fb rb L F G i)
      case atStart => exact ⟨0, rfl, by simp, HP.out⟩
      case round =>
        obtain ⟨q, rfl, hgq, hp⟩ := hrel
        have HGQ := Lib.hid hgq; clear hgq
        have HP2 := Lib.hid hp; clear hp HP
        by_cases hq : q < L.length
        · have hq' : (q : Int) < (L.length : Int) := by omega
          obtain ⟨y, hy⟩ : ∃ y, L[q]? = some y := ⟨L[q], List.getElem?_eq_getElem hq⟩
          obtain ⟨g, o, cp, cr, hrw⟩ := HP2.out.r.leaf hy
          have hrl : rb < wr.heap.size := cell_lt cr
          have hgl : g < wr.heap.size := rowAt_lt (a := ⟨g, o + q * 32, none⟩) hrw
          clear hy
          have HPd : Hid (FPair w wr.drew fb rb L F G i) := HP2.out.below ⟨rfl, rfl, rfl, Nat.le_refl _, fun _ _ => rfl⟩
          have hx2 : wr.drew.cell? ⟨rb, 0, none⟩ = some (.slice (some ⟨g, o, none⟩) L.length cp) ∧ rowAt wr.drew ⟨g, o + q * 32, none⟩ 32 = some (encH y) := ⟨cr, hrw⟩
          have hrl2 : rb < wr.drew.heap.size := hrl
          have hgl2 : g < wr.drew.heap.size := hgl
          go_wp2_with fail
          refine wp_region_held_drew (S := fun w' => w'.cell? ⟨rb, 0, none⟩ = some (.slice (some ⟨g, o, none⟩) L.length cp) ∧ rowAt w' ⟨g, o + q * 32, none⟩ 32 = some (encH y)) (by kernel_rfl) ?_ (fun hHeld => ?_)
          · exact hx2
          refine wpAnyH_take (i := 0) (oi := { dst := some 109, op := Op.move (Operand.tmp 3), type := 23, pos := "law.go:110", after := #[], guard := none }) (v := ?_) rfl (by kernel_rfl) (by kernel_rfl) (by kernel_rfl) (fun _ _ _ h => h) (Or.inl ⟨by rfl, ?_⟩) hHeld ?_
          rotate_left 1
          · (intro w9 hSw; (try dsimp only at hSw); (try obtain ⟨hSc, hSr⟩ := hSw); go_simp)
            try with_reducible rfl
          try simp only [Act.put, List.setIfInBounds_toArray, List.set_cons_zero, List.set_cons_succ]
          refine wpAnyH_take (i := 1) (oi := { dst := some 110, op := Op.move (Operand.tmp 4), type := 25, pos := "law.go:110", after := #[], guard := none }) (v := ?_) rfl (by kernel_rfl) (by kernel_rfl) (by kernel_rfl) (fun _ _ _ h => h) (Or.inl ⟨by rfl, ?_⟩) hHeld ?_
          rotate_left 1
          · (intro w9 hSw; (try dsimp only at hSw); (try obtain ⟨hSc, hSr⟩ := hSw); go_simp)
            try with_reducible rfl
          try simp only [Act.put, List.setIfInBounds_toArray, List.set_cons_zero, List.set_cons_succ]
          refine wpAnyH_take (i := 2) (oi := { dst := some 111, op := Op.nilCheck (Operand.tmp 110), type := 0, pos := "law.go:110", after := #[{ on := 1, ground := Ground.data }], guard := none }) (v := ?_) rfl (by kernel_rfl) (by kernel_rfl) (by kernel_rfl) (fun _ _ _ h => h) (Or.inl ⟨by rfl, ?_⟩) hHeld ?_
          rotate_left 1
          · (intro w9 hSw; (try dsimp only at hSw); (try obtain ⟨hSc, hSr⟩ := hSw); go_simp)
            try with_reducible rfl
          try simp only [Act.put, List.setIfInBounds_toArray, List.set_cons_zero, List.set_cons_succ]
          refine wpAnyH_take (i := 3) (oi := { dst := some 112, op := Op.fieldAddr 28 (Operand.tmp 111) 0, type := 0, pos := "law.go:110", after := #[{ on := 2, ground := Ground.data }], guard := none }) (v := ?_) rfl (by kernel_rfl) (by kernel_rfl) (by kernel_rfl) (fun _ _ _ h => h) (Or.inl ⟨by rfl, ?_⟩) hHeld ?_
          rotate_left 1
          · (intro w9 hSw; (try dsimp only at hSw); (try obtain ⟨hSc, hSr⟩ := hSw); go_simp)
            try with_reducible rfl
          try simp only [Act.put, List.setIfInBounds_toArray, List.set_cons_zero, List.set_cons_succ]
          refine wpAnyH_take (i := 4) (oi := { dst := some 113, op := Op.load 26 (Operand.tmp 112), type := 26, pos := "law.go:110", after := #[{ on := 3, ground := Ground.data }], guard := none }) (v := ?_) rfl (by kernel_rfl) (by kernel_rfl) (by kernel_rfl) (fun _ _ _ h => h) (Or.inl ⟨by rfl, ?_⟩) hHeld ?_
          rotate_left 1
          · (intro w9 hSw; (try dsimp only at hSw); (try obtain ⟨hSc, hSr⟩ := hSw); go_simp)
            try with_reducible rfl
          try simp only [Act.put, List.setIfInBounds_toArray, List.set_cons_zero, List.set_cons_succ]
          refine wpAnyH_take (i := 5) (oi := { dst := some 114, op := Op.move (Operand.tmp 11), type := 3, pos := "law.go:110", after := #[], guard := none }) (v := ?_) rfl (by kernel_rfl) (by kernel_rfl) (by kernel_rfl) (fun _ _ _ h => h) (Or.inl ⟨by rfl, ?_⟩) hHeld ?_
          rotate_left 1
          · (intro w9 hSw; (try dsimp only at hSw); (try obtain ⟨hSc, hSr⟩ := hSw); go_simp)
            try with_reducible rfl
          try simp only [Act.put, List.setIfInBounds_toArray, List.set_cons_zero, List.set_cons_succ]
          refine wpAnyH_take (i := 6) (oi := { dst := some 115, op := Op.indexAddr 26 (Operand.tmp 113) (Operand.tmp 114), type := 0, pos := "law.go:110", after := #[{ on := 4, ground := Ground.data }, { on := 5, ground := Ground.data }], guard := none }) (v := ?_) rfl (by kernel_rfl) (by kernel_rfl) (by kernel_rfl) (fun _ _ _ h => h) (Or.inl ⟨by rfl, ?_⟩) hHeld ?_
          rotate_left 1
          · (intro w9 hSw; (try dsimp only at hSw); (try obtain ⟨hSc, hSr⟩ := hSw); go_simp)
            try with_reducible rfl
          try simp only [Act.put, List.setIfInBounds_toArray, List.set_cons_zero, List.set_cons_succ]
          refine wpAnyH_take (i := 7) (oi := { dst := some 116, op := Op.load 30 (Operand.tmp 115), type := 30, pos := "law.go:110", after := #[{ on := 6, ground := Ground.data }], guard := none }) (v := ?_) rfl (by kernel_rfl) (by kernel_rfl) (by kernel_rfl) (fun _ _ _ h => h) (Or.inl ⟨by rfl, ?_⟩) hHeld ?_
          rotate_left 1
          · (intro w9 hSw; (try dsimp only at hSw); (try obtain ⟨hSc, hSr⟩ := hSw); go_simp)
            try with_reducible rfl
          try simp only [Act.put, List.setIfInBounds_toArray, List.set_cons_zero, List.set_cons_succ]
          refine wpAnyH_take (i := 9) (oi := { dst := some 118, op := Op.move (Operand.tmp 3), type := 23, pos := "law.go:110", after := #[], guard := none }) (v := ?_) rfl (by kernel_rfl) (by kernel_rfl) (by kernel_rfl) (fun _ _ _ h => h) (Or.inl ⟨by rfl, ?_⟩) hHeld ?_
          rotate_left 1
          · (intro w9 hSw; (try dsimp only at hSw); (try obtain ⟨hSc, hSr⟩ := hSw); go_simp)
            try with_reducible rfl
          try simp only [Act.put, List.setIfInBounds_toArray, List.set_cons_zero, List.set_cons_succ]
          refine wpAnyH_take (i := 10) (oi := { dst := some 119, op := Op.move (Operand.tmp 4), type := 25, pos := "law.go:110", after := #[], guard := none }) (v := ?_) rfl (by kernel_rfl) (by kernel_rfl) (by kernel_rfl) (fun _ _ _ h => h) (Or.inl ⟨by rfl, ?_⟩) hHeld ?_
          rotate_left 1
          · (intro w9 hSw; (try dsimp only at hSw); (try obtain ⟨hSc, hSr⟩ := hSw); go_simp)
            try with_reducible rfl
          try simp only [Act.put, List.setIfInBounds_toArray, List.set_cons_zero, List.set_cons_succ]
          refine wpAnyH_take (i := 11) (oi := { dst := some 120, op := Op.nilCheck (Operand.tmp 119), type := 0, pos := "law.go:110", after := #[{ on := 10, ground := Ground.data }], guard := none }) (v := ?_) rfl (by kernel_rfl) (by kernel_rfl) (by kernel_rfl) (fun _ _ _ h => h) (Or.inl ⟨by rfl, ?_⟩) hHeld ?_
          rotate_left 1
          · (intro w9 hSw; (try dsimp only at hSw); (try obtain ⟨hSc, hSr⟩ := hSw); go_simp)
            try with_reducible rfl
          try simp only [Act.put, List.setIfInBounds_toArray, List.set_cons_zero, List.set_cons_succ]
          refine wpAnyH_take (i := 12) (oi := { dst := some 121, op := Op.fieldAddr 28 (Operand.tmp 120) 0, type := 0, pos := "law.go:110", after := #[{ on := 11, ground := Ground.data }], guard := none }) (v := ?_) rfl (by kernel_rfl) (by kernel_rfl) (by kernel_rfl) (fun _ _ _ h => h) (Or.inl ⟨by rfl, ?_⟩) hHeld ?_
          rotate_left 1
          · (intro w9 hSw; (try dsimp only at hSw); (try obtain ⟨hSc, hSr⟩ := hSw); go_simp)
            try with_reducible rfl
          try simp only [Act.put, List.setIfInBounds_toArray, List.set_cons_zero, List.set_cons_succ]
          refine wpAnyH_take (i := 13) (oi := { dst := some 122, op := Op.load 26 (Operand.tmp 121), type := 26, pos := "law.go:110", after := #[{ on := 12, ground := Ground.data }], guard := none }) (v := ?_) rfl (by kernel_rfl) (by kernel_rfl) (by kernel_rfl) (fun _ _ _ h => h) (Or.inl ⟨by rfl, ?_⟩) hHeld ?_
          rotate_left 1
          · (intro w9 hSw; (try dsimp only at hSw); (try obtain ⟨hSc, hSr⟩ := hSw); go_simp)
            try with_reducible rfl
          try simp only [Act.put, List.setIfInBounds_toArray, List.set_cons_zero, List.set_cons_succ]
          refine wpAnyH_take (i := 14) (oi := { dst := some 123, op := Op.move (Operand.tmp 11), type := 3, pos := "law.go:110", after := #[], guard := none }) (v := ?_) rfl (by kernel_rfl) (by kernel_rfl) (by kernel_rfl) (fun _ _ _ h => h) (Or.inl ⟨by rfl, ?_⟩) hHeld ?_
          rotate_left 1
          · (intro w9 hSw; (try dsimp only at hSw); (try obtain ⟨hSc, hSr⟩ := hSw); go_simp)
            try with_reducible rfl
          try simp only [Act.put, List.setIfInBounds_toArray, List.set_cons_zero, List.set_cons_succ]
          refine wpAnyH_take (i := 15) (oi := { dst := some 124, op := Op.indexAddr 26 (Operand.tmp 122) (Operand.tmp 123), type := 0, pos := "law.go:110", after := #[{ on := 13, ground := Ground.data }, { on := 14, ground := Ground.data }], guard := none }) (v := ?_) rfl (by kernel_rfl) (by kernel_rfl) (by kernel_rfl) (fun _ _ _ h => h) (Or.inl ⟨by rfl, ?_⟩) hHeld ?_
          rotate_left 1
          · (intro w9 hSw; (try dsimp only at hSw); (try obtain ⟨hSc, hSr⟩ := hSw); go_simp)
            try with_reducible rfl
          try simp only [Act.put, List.setIfInBounds_toArray, List.set_cons_zero, List.set_cons_succ]
          refine wpAnyH_take (i := 16) (oi := { dst := some 125, op := Op.load 30 (Operand.tmp 124), type := 30, pos := "law.go:110", after := #[{ on := 15, ground := Ground.data }], guard := none }) (v := ?_) rfl (by kernel_rfl) (by kernel_rfl) (by kernel_rfl) (fun _ _ _ h => h) (Or.inl ⟨by rfl, ?_⟩) hHeld ?_
          rotate_left 1
          · (intro w9 hSw; (try dsimp only at hSw); (try obtain ⟨hSc, hSr⟩ := hSw); go_simp)
            try with_reducible rfl
          try simp only [Act.put, List.setIfInBounds_toArray, List.set_cons_zero, List.set_cons_succ]
          refine wpAnyH_take (i := 18) (oi := { dst := some 127, op := Op.move (Operand.tmp 4), type := 25, pos := "law.go:110", after := #[], guard := none }) (v := ?_) rfl (by kernel_rfl) (by kernel_rfl) (by kernel_rfl) (fun _ _ _ h => h) (Or.inl ⟨by rfl, ?_⟩) hHeld ?_
          rotate_left 1
          · (intro w9 hSw; (try dsimp only at hSw); (try obtain ⟨hSc, hSr⟩ := hSw); go_simp)
            try with_reducible rfl
          try simp only [Act.put, List.setIfInBounds_toArray, List.set_cons_zero, List.set_cons_succ]
          refine wpAnyH_take (i := 19) (oi := { dst := some 128, op := Op.move (Operand.tmp 4), type := 25, pos := "law.go:110", after := #[], guard := none }) (v := ?_) rfl (by kernel_rfl) (by kernel_rfl) (by kernel_rfl) (fun _ _ _ h => h) (Or.inl ⟨by rfl, ?_⟩) hHeld ?_
          rotate_left 1
          · (intro w9 hSw; (try dsimp only at hSw); (try obtain ⟨hSc, hSr⟩ := hSw); go_simp)
            try with_reducible rfl
          try simp only [Act.put, List.setIfInBounds_toArray, List.set_cons_zero, List.set_cons_succ]
          refine wpAnyH_take (i := 20) (oi := { dst := some 129, op := Op.nilCheck (Operand.tmp 128), type := 0, pos := "law.go:110", after := #[{ on := 19, ground := Ground.data }], guard := none }) (v := ?_) rfl (by kernel_rfl) (by kernel_rfl) (by kernel_rfl) (fun _ _ _ h => h) (Or.inl ⟨by rfl, ?_⟩) hHeld ?_
          rotate_left 1
          · (intro w9 hSw; (try dsimp only at hSw); (try obtain ⟨hSc, hSr⟩ := hSw); go_simp)
            try with_reducible rfl
          try simp only [Act.put, List.setIfInBounds_toArray, List.set_cons_zero, List.set_cons_succ]
          refine wpAnyH_take (i := 21) (oi := { dst := some 130, op := Op.fieldAddr 28 (Operand.tmp 129) 0, type := 0, pos := "law.go:110", after := #[{ on := 20, ground := Ground.data }], guard := none }) (v := ?_) rfl (by kernel_rfl) (by kernel_rfl) (by kernel_rfl) (fun _ _ _ h => h) (Or.inl ⟨by rfl, ?_⟩) hHeld ?_
          rotate_left 1
          · (intro w9 hSw; (try dsimp only at hSw); (try obtain ⟨hSc, hSr⟩ := hSw); go_simp)
            try with_reducible rfl
          try simp only [Act.put, List.setIfInBounds_toArray, List.set_cons_zero, List.set_cons_succ]
          refine wpAnyH_take (i := 22) (oi := { dst := some 131, op := Op.load 26 (Operand.tmp 130), type := 26, pos := "law.go:110", after := #[{ on := 21, ground := Ground.data }], guard := none }) (v := ?_) rfl (by kernel_rfl) (by kernel_rfl) (by kernel_rfl) (fun _ _ _ h => h) (Or.inl ⟨by rfl, ?_⟩) hHeld ?_
          rotate_left 1
          · (intro w9 hSw; (try dsimp only at hSw); (try obtain ⟨hSc, hSr⟩ := hSw); go_simp)
            try with_reducible rfl
          try simp only [Act.put, List.setIfInBounds_toArray, List.set_cons_zero, List.set_cons_succ]
          refine wpAnyH_take (i := 23) (oi := { dst := some 132, op := Op.move (Operand.tmp 11), type := 3, pos := "law.go:110", after := #[], guard := none }) (v := ?_) rfl (by kernel_rfl) (by kernel_rfl) (by kernel_rfl) (fun _ _ _ h => h) (Or.inl ⟨by rfl, ?_⟩) hHeld ?_
          rotate_left 1
          · (intro w9 hSw; (try dsimp only at hSw); (try obtain ⟨hSc, hSr⟩ := hSw); go_simp)
            try with_reducible rfl
          try simp only [Act.put, List.setIfInBounds_toArray, List.set_cons_zero, List.set_cons_succ]
          refine wpAnyH_take (i := 24) (oi := { dst := some 133, op := Op.indexAddr 26 (Operand.tmp 131) (Operand.tmp 132), type := 0, pos := "law.go:110", after := #[{ on := 22, ground := Ground.data }, { on := 23, ground := Ground.data }], guard := none }) (v := ?_) rfl (by kernel_rfl) (by kernel_rfl) (by kernel_rfl) (fun _ _ _ h => h) (Or.inl ⟨by rfl, ?_⟩) hHeld ?_
          rotate_left 1
          · (intro w9 hSw; (try dsimp only at hSw); (try obtain ⟨hSc, hSr⟩ := hSw); go_simp)
            try with_reducible rfl
          try simp only [Act.put, List.setIfInBounds_toArray, List.set_cons_zero, List.set_cons_succ]
          refine wpAnyH_take (i := 25) (oi := { dst := some 134, op := Op.load 30 (Operand.tmp 133), type := 30, pos := "law.go:110", after := #[{ on := 24, ground := Ground.data }], guard := none }) (v := ?_) rfl (by kernel_rfl) (by kernel_rfl) (by kernel_rfl) (fun _ _ _ h => h) (Or.inl ⟨by rfl, ?_⟩) hHeld ?_
          rotate_left 1
          · (intro w9 hSw; (try dsimp only at hSw); (try obtain ⟨hSc, hSr⟩ := hSw); go_simp)
            try with_reducible rfl
          try simp only [Act.put, List.setIfInBounds_toArray, List.set_cons_zero, List.set_cons_succ]
          refine wpAnyH_ready (rs := [8]) (by kernel_rfl) (by simp) ?_
          refine AllReadyH.cons (o := { dst := some 117, op := Op.call { callee := Callee.value (Operand.func 13), args := #[Operand.tmp 109, Operand.tmp 116], argTypes := #[23, 30] }, type := 36, pos := "law.go:110", after := #[{ on := 0, ground := Ground.data }, { on := 7, ground := Ground.data }], guard := none }) rfl (fun K hK => ?_) AllReadyH.nil
          go_simp
          refine (FAt_any HPd.out.f hL6 y).mono ?_
          rintro e w3 ⟨va, rfl, hu3, hb3⟩
          have hx3 : w3.cell? ⟨rb, 0, none⟩ = some (.slice (some ⟨g, o, none⟩) L.length cp) ∧ rowAt w3 ⟨g, o + q * 32, none⟩ 32 = some (encH y) := ⟨(cell_block (a := ⟨rb, 0, none⟩) (hb3.block rb (by omega))).trans hx2.1, (rowAt_block (a := ⟨g, o + q * 32, none⟩) (hb3.block g (by omega)) 32).trans hx2.2⟩
          have hs3 := hb3.size
          go_wp2_with fail
          refine hK.out _ _ ?_ (fun hHeld => ?_)
          · exact hx3
          clear hK K
          try simp only [Act.put, List.setIfInBounds_toArray, List.set_cons_zero, List.set_cons_succ]
          refine wpAnyH_ready (rs := [17]) (by kernel_rfl) (by simp) ?_
          refine AllReadyH.cons (o := { dst := some 126, op := Op.call { callee := Callee.value (Operand.func 13), args := #[Operand.tmp 118, Operand.tmp 125], argTypes := #[23, 30] }, type := 36, pos := "law.go:110", after := #[{ on := 9, ground := Ground.data }, { on := 16, ground := Ground.data }, { on := 8, ground := Ground.chain }], guard := none }) rfl (fun K hK => ?_) AllReadyH.nil
          go_simp
          refine (FAt_any (HPd.out.f.below hb3) hL6 y).mono ?_
          rintro e w4 ⟨vb, rfl, hu4, hb4⟩
          have hx4 : w4.cell? ⟨rb, 0, none⟩ = some (.slice (some ⟨g, o, none⟩) L.length cp) ∧ rowAt w4 ⟨g, o + q * 32, none⟩ 32 = some (encH y) := ⟨(cell_block (a := ⟨rb, 0, none⟩) (hb4.block rb (by omega))).trans hx3.1, (rowAt_block (a := ⟨g, o + q * 32, none⟩) (hb4.block g (by omega)) 32).trans hx3.2⟩
          have hs4 := hb4.size
          go_wp2_with fail
          refine hK.out _ _ ?_ (fun hHeld => ?_)
          · exact hx4
          clear hK K
          try simp only [Act.put, List.setIfInBounds_toArray, List.set_cons_zero, List.set_cons_succ]
          refine wpAnyH_ready (rs := [26]) (by kernel_rfl) (by simp) ?_
          refine AllReadyH.cons (o := { dst := some 135, op := Op.call { callee := Callee.value (Operand.func 14), args := #[Operand.tmp 127, Operand.tmp 134], argTypes := #[25, 30] }, type := 36, pos := "law.go:110", after := #[{ on := 18, ground := Ground.data }, { on := 25, ground := Ground.data }, { on := 17, ground := Ground.chain }], guard := none }) rfl (fun K hK => ?_) AllReadyH.nil
          go_simp
          refine (RFAt_any ((HPd.out.r.below hb3).below hb4) hL6 y).mono ?_
          rintro e w5 ⟨vc, rfl, hu5, hb5⟩
          have hx5 : w5.cell? ⟨rb, 0, none⟩ = some (.slice (some ⟨g, o, none⟩) L.length cp) ∧ rowAt w5 ⟨g, o + q * 32, none⟩ 32 = some (encH y) := ⟨(cell_block (a := ⟨rb, 0, none⟩) (hb5.block rb (by omega))).trans hx4.1, (rowAt_block (a := ⟨g, o + q * 32, none⟩) (hb5.block g (by omega)) 32).trans hx4.2⟩
          have hs5 := hb5.size
          have hua : URow w5 wr.drew.heap.size va (idx L y) := (hu3.same (fun j hj => hb4.block j (ownsRow_lt hu3 hj).1)).same (fun j hj => hb5.block j (by have := (ownsRow_lt hu3 hj).1; omega))
          have hub : URow w5 wr.drew.heap.size vb (idx L y) := URow.same (ownsRow_base hu4 hs3) (fun j hj => hb5.block j (ownsRow_lt hu4 hj).1)
          have hab : ∀ j, va.ownBlock = some j → vb.ownBlock ≠ some j := fun j h1 h2 => by have := (ownsRow_lt hu3 h1).1; have := (ownsRow_lt hu4 h2).2; omega
          have hil := idx_length L y
          go_wp2_with fail
          refine hK.out _ _ ?_ (fun hHeld => ?_)
          · exact hx5
          clear hK K
          try simp only [Act.put, List.setIfInBounds_toArray, List.set_cons_zero, List.set_cons_succ]
          refine wpAnyH_ready (rs := [27]) (by kernel_rfl) (by simp) ?_
          refine AllReadyH.cons (o := { dst := some 136, op := Op.call { callee := Callee.value (Operand.func 12), args := #[Operand.tmp 117, Operand.tmp 126, Operand.tmp 135], argTypes := #[36, 36, 36] }, type := 4, pos := "law.go:110", after := #[{ on := 8, ground := Ground.data }, { on := 17, ground := Ground.data }, { on := 26, ground := Ground.data }, { on := 26, ground := Ground.chain }], guard := none }) rfl (fun K hK => ?_) AllReadyH.nil
          go_simp
          refine (same_any hua hub hu5.num hab (by omega) (by omega)).mono ?_
          rintro e w6 ⟨rfl, hb6⟩
          have hx6 : w6.cell? ⟨rb, 0, none⟩ = some (.slice (some ⟨g, o, none⟩) L.length cp) ∧ rowAt w6 ⟨g, o + q * 32, none⟩ 32 = some (encH y) := ⟨(cell_block (a := ⟨rb, 0, none⟩) (hb6.block rb (by omega))).trans hx5.1, (rowAt_block (a := ⟨g, o + q * 32, none⟩) (hb6.block g (by omega)) 32).trans hx5.2⟩
          go_wp2_with fail
          refine hK.out _ _ ?_ (fun hHeld => ?_)
          · exact hx6
          clear hK K
          try simp only [Act.put, List.setIfInBounds_toArray, List.set_cons_zero, List.set_cons_succ]
          refine wpAnyH_take (i := 28) (oi := { dst := some 137, op := Op.unOp UnOp.not 4 (Operand.tmp 136), type := 4, pos := "law.go:110", after := #[{ on := 27, ground := Ground.data }], guard := none }) (v := ?_) rfl (by kernel_rfl) (by kernel_rfl) (by kernel_rfl) (fun _ _ _ h => h) (Or.inl ⟨by rfl, ?_⟩) hHeld ?_
          rotate_left 1
          · (intro w9 hSw; (try dsimp only at hSw); (try obtain ⟨hSc, hSr⟩ := hSw); go_simp)
            try with_reducible rfl
          try simp only [Act.put, List.setIfInBounds_toArray, List.set_cons_zero, List.set_cons_succ]
          refine wpAnyH_done (by kernel_rfl) ?_ _
          have hbf : Below wr.drew.heap.size wr.drew w6 := ((hb3.trans (hb4.mono hs3)).trans (hb5.mono (by omega))).trans hb6
          have HP6 := Lib.hid (HPd.out.below hbf)
          clear hu3 hu4 hu5 hua hub hb3 hb4 hb5 hb6 hbf hab
          go_wp2_with fail
          go_roundg (gk - 1)
          case measure => have := HGQ.out; omega
          case rel => exact ⟨q + 1, by simp, by have := HGQ.out; omega, HP6.out⟩
        · have hq' : ¬ (q : Int) < (L.length : Int) := by omega
          obtain ⟨adr, capr, cr, hrl, _⟩ := HP2.out.r.slice
          go_wp2_with fail
          refine (tells_any HP2.out.f HP2.out.r (by omega)).mono ?_
          rintro e w3 ⟨rfl, hb3⟩
          have HB3 := Lib.hid (HP2.out.bw.trans (hb3.mono HP2.out.bw.size))
          clear hb3
          go_wp2_with fail
          refine (fawake_any _).mono ?_
          rintro e w4 ⟨rfl, hb4⟩
          go_wp2_with fail
          go_ret
          exact ⟨rfl, HB3.out.trans (hb4.mono HB3.out.size)⟩
end Go.Proofs.Ytoigddekipjkcaa
