/- The database's meta is read from bytes. Conditions as stated. The database's settle and sound come to the model's. Conditions as stated. The database's sound says yes to a record of its own. Conditions as stated. The disk's laws: what a sector may hold behind a loss of power. Plain Lean, no program. No condition. pagedb.Open: the refusals, and the words for what it does. Conditions as stated. -/
import Derived.Test.YthbbammibdhohaaGreatDoorZW1
import Derived.Test.YthbbammibdhohaaGreatDoorZU2
import Derived.Test.YthbbammibdhohaaGreatDoorZG1
set_option linter.unusedSimpArgs false
set_option linter.unusedVariables false
namespace Go.Proofs.YthbbammibdhohaaGreatDoor
open Go.RowKit Aq Go.Rgn

theorem drop_take4 (a b c : Bs) (n : Nat) (ha : a.length = n) (hb : b.length = 4) : ((a ++ (b ++ c)).drop n).take 4 = b := by
  rw [List.drop_left' ha, List.take_left' hb]
theorem meta_at (m : Meta) (i x : Nat) (hx : [m.high, m.free, m.count, m.r0, m.r1, m.r2, m.r3][i]? = some x) : ((metaB m).drop (4 * i)).take 4 = num x 4 := by
  have h : ∀ y, (num y 4).length = 4 := fun y => num_len _ _
  have e : metaB m = num m.high 4 ++ (num m.free 4 ++ (num m.count 4 ++ (num m.r0 4 ++ (num m.r1 4 ++ (num m.r2 4 ++ (num m.r3 4 ++ [])))))) := by
    simp [metaB, headM, rootTo, rootsB]
  rw [e]
  match i, hx with
  | 0, hx => injection hx with hx; subst hx; exact drop_take4 [] _ _ 0 rfl (h _)
  | 1, hx => injection hx with hx; subst hx; exact drop_take4 _ _ _ 4 (h _) (h _)
  | 2, hx =>
    injection hx with hx; subst hx
    have := drop_take4 (num m.high 4 ++ num m.free 4) (num m.count 4) (num m.r0 4 ++ (num m.r1 4 ++ (num m.r2 4 ++ (num m.r3 4 ++ [])))) 8 (by simp [h]) (h _)
    simpa using this
  | 3, hx =>
    injection hx with hx; subst hx
    have := drop_take4 (num m.high 4 ++ num m.free 4 ++ num m.count 4) (num m.r0 4) (num m.r1 4 ++ (num m.r2 4 ++ (num m.r3 4 ++ []))) 12 (by simp [h]) (h _)
    simpa using this
  | 4, hx =>
    injection hx with hx; subst hx
    have := drop_take4 (num m.high 4 ++ num m.free 4 ++ num m.count 4 ++ num m.r0 4) (num m.r1 4) (num m.r2 4 ++ (num m.r3 4 ++ [])) 16 (by simp [h]) (h _)
    simpa using this
  | 5, hx =>
    injection hx with hx; subst hx
    have := drop_take4 (num m.high 4 ++ num m.free 4 ++ num m.count 4 ++ num m.r0 4 ++ num m.r1 4) (num m.r2 4) (num m.r3 4 ++ []) 20 (by simp [h]) (h _)
    simpa using this
  | 6, hx =>
    injection hx with hx; subst hx
    have := drop_take4 (num m.high 4 ++ num m.free 4 ++ num m.count 4 ++ num m.r0 4 ++ num m.r1 4 ++ num m.r2 4) (num m.r3 4) [] 24 (by simp [h]) (h _)
    simpa using this
  | i + 7, hx => simp at hx
def metaTo (m : Meta) (k : Nat) : Array Value := (((rootsB m).take k ++ List.replicate (4 - k) 0 ++ [m.high, m.free, m.count]).map int').toArray
def metaV (m : Meta) : Value := .agg #[int' m.r0, int' m.r1, int' m.r2, int' m.r3, int' m.high, int' m.free, int' m.count]
def ParsePost (w : World) (m : Meta) (e : Ending) (w' : World) : Prop := e = .returned (.tuple #[metaV m, .bool true]) ∧ Below w.heap.size w w'
theorem SetB.drewN {w w' : World} {g : Nat} {o : Obj} (h : SetB w w' g o) (n : Nat) : SetB w (w'.drewN n) g o := ⟨h.os, h.tape, h.output, h.size, h.here, h.other⟩
def ParseInv (w : World) (m : Meta) (v : Value) (wr : World) : Prop := ∃ k : Nat, k ≤ 4 ∧ v = .int .i64 (k : Int) ∧ wr.heap[w.heap.size]? = some (.cells (metaTo m k) 60 (0, 0)) ∧ Below w.heap.size w wr
theorem parse_val (m : Meta) (hm : m.Ok) (s : ByteArray) (hs : s.data.toList = metaB m) (i x : Nat) (hx : [m.high, m.free, m.count, m.r0, m.r1, m.r2, m.r3][i]? = some x) (w : World) :
    Calls Tryz.prog 60 #[.string (s.extract (4 * i) s.size)] w fun e w' => e = .returned (int' x) ∧ ∃ n, w' = w.drewN n := by
  have hsz : s.size = 28 := by rw [show s.size = s.data.toList.length from rfl, hs, metaB_len]
  have hi : i < 7 := by have := (List.getElem?_eq_some_iff.1 hx).1; simpa using this
  have hb : x < 2147483648 := by
    have := hm.r0; have := hm.r1; have := hm.r2; have := hm.r3; have := hm.high; have := hm.free; have := hm.count
    match i, hx with
    | 0, h => injection h with h; subst h; assumption
    | 1, h => injection h with h; subst h; assumption
    | 2, h => injection h with h; subst h; assumption
    | 3, h => injection h with h; subst h; assumption
    | 4, h => injection h with h; subst h; assumption
    | 5, h => injection h with h; subst h; assumption
    | 6, h => injection h with h; subst h; assumption
    | i + 7, h => simp at h
  have h := pagedb_value w (s.extract (4 * i) s.size) (by rw [ByteArray.size_extract]; omega)
  have e : (s.extract (4 * i) s.size).data.toList.take 4 = num x 4 := by
    rw [Lib.extract_data, List.take_of_length_le (l := (s.data.toList.drop (4 * i))) (by rw [List.length_drop]; exact Nat.le_refl _), hs, meta_at m i x hx]
  rw [e, val_num 4 _ (by omega)] at h
  exact h
set_option maxHeartbeats 2000000 in
set_option maxRecDepth 100000 in
theorem pagedb_parse (w : World) (m : Meta) (hm : m.Ok) (h1 : 1 ≤ m.high) (s : ByteArray) (hs : s.data.toList = metaB m) : Calls Tryz.prog 49 #[.string s] w (ParsePost w m) := by
  have hsz : s.size = 28 := by rw [show s.size = s.data.toList.length from rfl, hs, metaB_len]
  have v0 := fun w1 => parse_val m hm s hs 0 m.high rfl w1
  have v1 : ∀ w1, Calls Tryz.prog 60 #[.string (s.extract 4 s.size)] w1 fun e w' => e = .returned (int' m.free) ∧ ∃ n, w' = w1.drewN n := fun w1 => parse_val m hm s hs 1 m.free rfl w1
  have v2 : ∀ w1, Calls Tryz.prog 60 #[.string (s.extract 8 s.size)] w1 fun e w' => e = .returned (int' m.count) ∧ ∃ n, w' = w1.drewN n := fun w1 => parse_val m hm s hs 2 m.count rfl w1
  have vr : ∀ (k r : Nat), (rootsB m)[k]? = some r → ∀ w1, Calls Tryz.prog 60 #[.string (s.extract (4 * (3 + k)) s.size)] w1 fun e w' => e = .returned (int' r) ∧ ∃ n, w' = w1.drewN n := fun k r hr w1 =>
    parse_val m hm s hs (3 + k) r (by
      match k, hr with
      | 0, hr => exact hr
      | 1, hr => exact hr
      | 2, hr => exact hr
      | 3, hr => exact hr
      | k + 4, hr => simp [rootsB] at hr) w1
  have VR := Lib.hid vr
  have x0 : s.extract (4 * 0) s.size = s := by
    rw [ByteArray.ext_iff, ← Array.toList_inj, Lib.extract_data, Nat.mul_zero, List.drop_zero]; exact List.take_of_length_le (Nat.le_refl _)
  rw [x0] at v0
  have g0 : ((s.size : Int) == 28) = true := by simp [hsz]
  have g0' : ((s.size : Int) != 28) = false := by simp [hsz]
  have g1 : (4 : Int) ≤ (s.size : Int) := by omega
  have g2 : (8 : Int) ≤ (s.size : Int) := by omega
  have g3 : (1 : Int) ≤ (m.high : Int) := by omega
  have g4 : ¬ ((m.high : Int) < 1) := by omega
  have HSZ := Lib.hid hsz
  clear hs hm h1 vr x0 hsz
  go_enter Tryz.func49, Tryz.ntmps49
  go_wp2
  obtain ⟨w0, hw0⟩ : ∃ w0, w0 = w.alloc (.cells #[.int .i64 0, .int .i64 0, .int .i64 0, .int .i64 0, .int .i64 0, .int .i64 0, .int .i64 0] 60) := ⟨_, rfl⟩
  have hs0 : SetB w0 w0 w.heap.size (.cells #[.int .i64 0, .int .i64 0, .int .i64 0, .int .i64 0, .int .i64 0, .int .i64 0, .int .i64 0] 60 (0, 0)) := SetB.same (by rw [hw0]; exact heap_alloc_new w _)
  have hb0 : Below w.heap.size w w0 := by rw [hw0]; exact (Below.refl _ w).alloc (Nat.le_refl _) _
  rw [← hw0]
  have HB0 := Lib.hid hb0
  clear hw0 hb0
  refine wp_region_C (fun _ => True) (fun _ => false) (by kernel_rfl) ?_
  change anyC _ _ _ _ _ 14 _ _ w0.drew
  have hT : True := trivial
  refine anyC_pure 0 9 (by decide) (by kernel_rfl) rfl rfl (by kernel_rfl) (by kernel_rfl) (fun _ _ _ _ h => h) (yi_move _ _ rfl rfl rfl) ?_
  simp only [Act.put, act_eval_tmp, act_eval_const, List.setIfInBounds_toArray, List.set_cons_succ, List.set_cons_zero, List.getD_cons_succ, List.getD_cons_zero]
  refine anyC_pure 2 11 (by decide) (by kernel_rfl) rfl rfl (by kernel_rfl) (by kernel_rfl) (fun _ _ _ _ h => h) (yi_move _ _ rfl rfl rfl) ?_
  simp only [Act.put, act_eval_tmp, act_eval_const, List.setIfInBounds_toArray, List.set_cons_succ, List.set_cons_zero, List.getD_cons_succ, List.getD_cons_zero]
  refine anyC_pure 3 12 (by decide) (by kernel_rfl) rfl rfl (by kernel_rfl) (by kernel_rfl) (fun _ _ _ _ h => h) (yi (v := .string (s.extract 4 s.size)) rfl (fun w _ => by go_simp)) ?_
  simp only [Act.put, act_eval_tmp, act_eval_const, List.setIfInBounds_toArray, List.set_cons_succ, List.set_cons_zero, List.getD_cons_succ, List.getD_cons_zero]
  refine anyC_pure 5 14 (by decide) (by kernel_rfl) rfl rfl (by kernel_rfl) (by kernel_rfl) (fun _ _ _ _ h => h) (yi_move _ _ rfl rfl rfl) ?_
  simp only [Act.put, act_eval_tmp, act_eval_const, List.setIfInBounds_toArray, List.set_cons_succ, List.set_cons_zero, List.getD_cons_succ, List.getD_cons_zero]
  refine anyC_pure 6 15 (by decide) (by kernel_rfl) rfl rfl (by kernel_rfl) (by kernel_rfl) (fun _ _ _ _ h => h) (yi (v := .string (s.extract 8 s.size)) rfl (fun w _ => by go_simp)) ?_
  simp only [Act.put, act_eval_tmp, act_eval_const, List.setIfInBounds_toArray, List.set_cons_succ, List.set_cons_zero, List.getD_cons_succ, List.getD_cons_zero]
  refine anyC_one 1 (some 10) _ 3 (by kernel_rfl) rfl rfl rfl rfl rfl ?_
  refine wp_callFn 60 #[.string s] _ (by kernel_rfl) (v0 _) ?_
  rintro _ w1 ⟨rfl, n1, rfl⟩
  refine ⟨_, rfl, fun h => absurd h (by decide), ?_⟩
  simp only [Act.put, act_eval_tmp, act_eval_const, List.setIfInBounds_toArray, List.set_cons_succ, List.set_cons_zero, List.getD_cons_succ, List.getD_cons_zero]
  refine anyC_pure 8 17 (by decide) (by kernel_rfl) rfl rfl (by kernel_rfl) (by kernel_rfl) (fun _ _ _ _ h => h) (yi_field 60 1 _ _ _ 4 rfl rfl rfl (by kernel_rfl)) ?_
  simp only [Act.put, act_eval_tmp, act_eval_const, List.setIfInBounds_toArray, List.set_cons_succ, List.set_cons_zero, List.getD_cons_succ, List.getD_cons_zero]
  refine anyC_one 4 (some 13) _ 3 (by kernel_rfl) rfl rfl rfl rfl rfl ?_
  refine wp_callFn 60 #[.string (s.extract 4 s.size)] _ (by kernel_rfl) (v1 _) ?_
  rintro _ w2 ⟨rfl, n2, rfl⟩
  refine ⟨_, rfl, fun h => absurd h (by decide), ?_⟩
  simp only [Act.put, act_eval_tmp, act_eval_const, List.setIfInBounds_toArray, List.set_cons_succ, List.set_cons_zero, List.getD_cons_succ, List.getD_cons_zero]
  refine anyC_one 7 (some 16) _ 3 (by kernel_rfl) rfl rfl rfl rfl rfl ?_
  refine wp_callFn 60 #[.string (s.extract 8 s.size)] _ (by kernel_rfl) (v2 _) ?_
  rintro _ w3 ⟨rfl, n3, rfl⟩
  refine ⟨_, rfl, fun h => absurd h (by decide), ?_⟩
  simp only [Act.put, act_eval_tmp, act_eval_const, List.setIfInBounds_toArray, List.set_cons_succ, List.set_cons_zero, List.getD_cons_succ, List.getD_cons_zero]
  refine anyC_one 9 none _ 0 (by kernel_rfl) rfl rfl rfl rfl rfl ?_
  have hs1 := (((hs0.drew).drewN n1).drewN n2).drewN n3
  refine wp_store_cell 3 (.tmp 17) (.tmp 10) rfl ⟨w.heap.size, 4, none⟩ rfl (int' m.high) (.int .i64 0) rfl rfl (by kernel_rfl) (cellAt hs1.here 4 _ rfl) (freeAt hs1.here 4) ?_
  refine ⟨fun h => absurd h (by decide), ?_⟩
  simp only [Act.put, act_eval_tmp, act_eval_const, List.setIfInBounds_toArray, List.set_cons_succ, List.set_cons_zero, List.getD_cons_succ, List.getD_cons_zero]
  refine anyC_pure 10 18 (by decide) (by kernel_rfl) rfl rfl (by kernel_rfl) (by kernel_rfl) (fun _ _ _ _ h => h) (yi_field 60 2 _ _ _ 5 rfl rfl rfl (by kernel_rfl)) ?_
  simp only [Act.put, act_eval_tmp, act_eval_const, List.setIfInBounds_toArray, List.set_cons_succ, List.set_cons_zero, List.getD_cons_succ, List.getD_cons_zero]
  refine anyC_one 11 none _ 0 (by kernel_rfl) rfl rfl rfl rfl rfl ?_
  have hs2 := hs1.setCell 4 (int' m.high)
  refine wp_store_cell 3 (.tmp 18) (.tmp 13) rfl ⟨w.heap.size, 5, none⟩ rfl (int' m.free) (.int .i64 0) rfl rfl (by kernel_rfl) (cellAt hs2.here 5 _ rfl) (freeAt hs2.here 5) ?_
  refine ⟨fun h => absurd h (by decide), ?_⟩
  simp only [Act.put, act_eval_tmp, act_eval_const, List.setIfInBounds_toArray, List.set_cons_succ, List.set_cons_zero, List.getD_cons_succ, List.getD_cons_zero]
  refine anyC_pure 12 19 (by decide) (by kernel_rfl) rfl rfl (by kernel_rfl) (by kernel_rfl) (fun _ _ _ _ h => h) (yi_field 60 3 _ _ _ 6 rfl rfl rfl (by kernel_rfl)) ?_
  simp only [Act.put, act_eval_tmp, act_eval_const, List.setIfInBounds_toArray, List.set_cons_succ, List.set_cons_zero, List.getD_cons_succ, List.getD_cons_zero]
  refine anyC_one 13 none _ 0 (by kernel_rfl) rfl rfl rfl rfl rfl ?_
  have hs3 := hs2.setCell 5 (int' m.free)
  refine wp_store_cell 3 (.tmp 19) (.tmp 16) rfl ⟨w.heap.size, 6, none⟩ rfl (int' m.count) (.int .i64 0) rfl rfl (by kernel_rfl) (cellAt hs3.here 6 _ rfl) (freeAt hs3.here 6) ?_
  refine ⟨fun h => absurd h (by decide), ?_⟩
  simp only [Act.put, act_eval_tmp, act_eval_const, List.setIfInBounds_toArray, List.set_cons_succ, List.set_cons_zero, List.getD_cons_succ, List.getD_cons_zero]
  refine anyC_done (by kernel_rfl) ?_
  have hs4 := hs3.setCell 6 (int' m.count)
  have hhere := hs4.here
  have hbel := HB0.out.trans (hs4.below (Nat.le_refl _))
  clear hs0 hs1 hs2 hs3 hs4 v0 v1 v2 g1 g2 g0 g0'
  generalize World.setCell (World.setCell (World.setCell (World.drewN (World.drewN (World.drewN (World.drew w0) n1) n2) n3) _ _) _ _) _ _ = w4 at hhere hbel ⊢
  have HH := Lib.hid hhere; have HB := Lib.hid hbel
  clear hhere hbel
  simp only [Nat.zero_add]
  go_wp2
  go_loopw [20] (fun v wr => ParseInv w m v wr) (fun v _ => 4 - (intOf v).toNat)
  case atStart => exact ⟨0, by omega, rfl, HH.out, HB.out⟩
  case round =>
    obtain ⟨k, hk, rfl, hck, hbk⟩ := hrel
    have hkk : k = 0 ∨ k = 1 ∨ k = 2 ∨ k = 3 ∨ k = 4 := by omega
    have hlw := lt_of_some hck
    have HBK := Lib.hid hbk; have HLW := Lib.hid hlw
    clear hbk hlw
    have kv := VR.out k
    clear VR
    have t4 : (12 : Int) ≤ (s.size : Int) := by have := HSZ.out; omega
    rcases hkk with rfl | rfl | rfl | rfl | rfl
    case inr.inr.inr.inr =>
      clear kv
      have hcl : wr.heap[w.heap.size]? = some (.cells [int' m.r0, int' m.r1, int' m.r2, int' m.r3, int' m.high, int' m.free, int' m.count].toArray 60 (0, 0)) := hck
      have h4 := cellAt hck 4 (int' m.high) rfl
      have hld : ∀ j v, [int' m.r0, int' m.r1, int' m.r2, int' m.r3, int' m.high, int' m.free, int' m.count][j]? = some v → wr.cell? ⟨w.heap.size, 0 + j, none⟩ = some v := fun j v hv => cellAt hcl (0 + j) v (by rw [Nat.zero_add]; simpa using hv)
      have HCL := Lib.hid hcl; have HLD := Lib.hid hld
      have HON : Hid (∀ v ∈ [int' m.r0, int' m.r1, int' m.r2, int' m.r3, int' m.high, int' m.free, int' m.count], v.oneCell' = true) := by
        intro v hv; simp only [List.mem_cons, List.not_mem_nil, or_false] at hv; rcases hv with rfl | rfl | rfl | rfl | rfl | rfl | rfl <;> rfl
      clear hcl hld hck
      go_wp2_with (first
        | (with_reducible refine wpList_load_mid rfl 60 (.tmp 2) rfl w.heap.size 0 rfl [int' m.r0, int' m.r1, int' m.r2, int' m.r3, int' m.high, int' m.free, int' m.count] (by kernel_rfl) HLD.out ?_)
        | (with_reducible refine wpList_store_same rfl 60 (.tmp 2) (.tmp 33) rfl w.heap.size rfl [int' m.r0, int' m.r1, int' m.r2, int' m.r3, int' m.high, int' m.free, int' m.count] rfl 60 (by kernel_rfl) HCL.out HON.out ?_))
      exact bodyPost_ret (results_cell2 2 60 3 rfl w.heap.size rfl [int' m.r0, int' m.r1, int' m.r2, int' m.r3, int' m.high, int' m.free, int' m.count] _ _ HCL.out (by kernel_rfl)) rfl ⟨rfl, HBK.out⟩
    case inl =>
      have hv : ∀ w1, Calls Tryz.prog 60 #[.string (s.extract 12 s.size)] w1 fun e w' => e = .returned (int' m.r0) ∧ ∃ n, w' = w1.drewN n := kv m.r0 rfl
      have hc := cellAt hck 0 (int' 0) rfl
      have hf := freeAt hck 0
      have t5 : (12 : Int) ≤ (s.size : Int) := by have := HSZ.out; omega
      have HCK := Lib.hid hck
      clear kv hck
      go_wp2_with (first
        | (go_at_call 60; go_must (refine (hv _).mono ?_; rintro e w5 ⟨rfl, n5, rfl⟩)))
      go_roundw
      case rel =>
        refine ⟨1, by omega, rfl, ?_, ((⟨HBK.out.os, HBK.out.tape, HBK.out.output, HBK.out.size, HBK.out.block⟩ : Below w.heap.size w (wr.drewN n5))).setCell (p := ⟨w.heap.size, 0, none⟩) (Nat.le_refl _) _⟩
        exact heap_setCell_same (wr.drewN n5) w.heap.size 0 _ _ _ HCK.out
      case measure => simp [intOf]
    case inr.inl =>
      have hv : ∀ w1, Calls Tryz.prog 60 #[.string (s.extract 16 s.size)] w1 fun e w' => e = .returned (int' m.r1) ∧ ∃ n, w' = w1.drewN n := kv m.r1 rfl
      have hc := cellAt hck 1 (int' 0) rfl
      have hf := freeAt hck 1
      have t5 : (16 : Int) ≤ (s.size : Int) := by have := HSZ.out; omega
      have HCK := Lib.hid hck
      clear kv hck
      go_wp2_with (first
        | (go_at_call 60; go_must (refine (hv _).mono ?_; rintro e w5 ⟨rfl, n5, rfl⟩)))
      go_roundw
      case rel =>
        refine ⟨2, by omega, rfl, ?_, ((⟨HBK.out.os, HBK.out.tape, HBK.out.output, HBK.out.size, HBK.out.block⟩ : Below w.heap.size w (wr.drewN n5))).setCell (p := ⟨w.heap.size, 1, none⟩) (Nat.le_refl _) _⟩
        exact heap_setCell_same (wr.drewN n5) w.heap.size 1 _ _ _ HCK.out
      case measure => simp [intOf]
    case inr.inr.inl =>
      have hv : ∀ w1, Calls Tryz.prog 60 #[.string (s.extract 20 s.size)] w1 fun e w' => e = .returned (int' m.r2) ∧ ∃ n, w' = w1.drewN n := kv m.r2 rfl
      have hc := cellAt hck 2 (int' 0) rfl
      have hf := freeAt hck 2
      have t5 : (20 : Int) ≤ (s.size : Int) := by have := HSZ.out; omega
      have HCK := Lib.hid hck
      clear kv hck
      go_wp2_with (first
        | (go_at_call 60; go_must (refine (hv _).mono ?_; rintro e w5 ⟨rfl, n5, rfl⟩)))
      go_roundw
      case rel =>
        refine ⟨3, by omega, rfl, ?_, ((⟨HBK.out.os, HBK.out.tape, HBK.out.output, HBK.out.size, HBK.out.block⟩ : Below w.heap.size w (wr.drewN n5))).setCell (p := ⟨w.heap.size, 2, none⟩) (Nat.le_refl _) _⟩
        exact heap_setCell_same (wr.drewN n5) w.heap.size 2 _ _ _ HCK.out
      case measure => simp [intOf]
    case inr.inr.inr.inl =>
      have hv : ∀ w1, Calls Tryz.prog 60 #[.string (s.extract 24 s.size)] w1 fun e w' => e = .returned (int' m.r3) ∧ ∃ n, w' = w1.drewN n := kv m.r3 rfl
      have hc := cellAt hck 3 (int' 0) rfl
      have hf := freeAt hck 3
      have t5 : (24 : Int) ≤ (s.size : Int) := by have := HSZ.out; omega
      have HCK := Lib.hid hck
      clear kv hck
      go_wp2_with (first
        | (go_at_call 60; go_must (refine (hv _).mono ?_; rintro e w5 ⟨rfl, n5, rfl⟩)))
      go_roundw
      case rel =>
        refine ⟨4, by omega, rfl, ?_, ((⟨HBK.out.os, HBK.out.tape, HBK.out.output, HBK.out.size, HBK.out.block⟩ : Below w.heap.size w (wr.drewN n5))).setCell (p := ⟨w.heap.size, 3, none⟩) (Nat.le_refl _) _⟩
        exact heap_setCell_same (wr.drewN n5) w.heap.size 3 _ _ _ HCK.out
      case measure => simp [intOf]
end Go.Proofs.YthbbammibdhohaaGreatDoor

namespace Go.Proofs.YthbbammibdhohaaGreatDoor
open Go.RowKit Aq Go.Rgn

def settleActs (L : Log) : List DAct := .F :: resetActs L
set_option maxHeartbeats 1000000 in
set_option maxRecDepth 100000 in
theorem db_settle {B : Nat} {w : World} {x db p log : Nat} {m : Meta} {op : Value} {lost : Bool} {D : Disk} {L : Log} (h : DbIs B w x db p log m op lost) (hd : DiskAt B w db D) (hl : LogNow B w p db L) (hr : L.recs ≠ [])
    (hp : D.pend.length < 4294967296) (hep : L.epoch < 4611686018427387904) (hH : HalfAt w) (hB : 0 < B) :
    Calls Tryz.prog 45 #[.pointer (some ⟨x, 0, none⟩)] w (WalPost B w p db (D.run (settleActs L)) (Log.reset L)) := by
  obtain ⟨bv, rv, hli, hw0, hlo, hfew⟩ := hl
  have hrec := log_Records hli
  have hBs : B ≤ w.heap.size := Nat.le_trans hli.hp (Nat.le_of_lt (lt_of_some hli.head))
  obtain ⟨n, hn⟩ : ∃ n, n = L.recs.length := ⟨_, rfl⟩
  rw [← hn] at hrec
  have hn0 : n ≠ 0 := fun e => hr (List.eq_nil_of_length_eq_zero (by omega))
  have g0 : ((n : Int) == 0) = false := by simp [hn0]
  have g1 : ¬ ((n : Int) = 0) := by omega
  have HLN : Hid (LogNow B w p db L) := ⟨bv, rv, hli, hw0, hlo, hfew⟩
  have hpl := act_pend D .F
  have hfl : D.flush = D.act .F := rfl
  obtain ⟨r, hrr⟩ : ∃ r, r = D.flush := ⟨_, rfl⟩
  rw [← hfl, ← hrr] at hpl
  have hrun : D.run (settleActs L) = if r.2 = 0 then r.1.run (resetActs L) else r := by rw [hrr]; rfl
  have hflu : ∀ w1, Below w.heap.size w w1 → Calls Tryz.prog 83 #[.pointer (some ⟨db, 0, none⟩)] w1 (DiskPost B w1 db r) := fun w1 hb => by
    rw [hrr]; exact disk_Flush (hd.keep (Below.sees hb))
  obtain ⟨D1, v⟩ := r
  have hf : D1.pend.length < 4294967296 := by
    have h1 : D1 = D.flush.1 := by rw [← hrr]
    rw [h1]
    unfold Disk.flush
    have h2 := (Disk.does_eq D).2
    split
    · exact hp
    split
    · exact Nat.succ_pos _
    · rw [h2]; exact hp
  have h0 := h.c0; have h1 := h.c1
  have HDB := Lib.hid h; have HH := Lib.hid hH; have HFL := Lib.hid hflu
  clear h hd hli hw0 hlo hfew hn hr hpl hfl hrr hH hflu
  by_cases hv : v = 0
  · subst hv
    simp only [if_true] at hrun
    obtain ⟨q, hq⟩ : ∃ q, q = D1.run (resetActs L) := ⟨_, rfl⟩
    rw [hrun, ← hq]
    have hres : ∀ w1 w2, Below w.heap.size w w1 → DiskAt B w2 db D1 → Upd B diskT w1 w2 → Calls Tryz.prog 84 #[.pointer (some ⟨p, 0, none⟩)] w2 (WalPost B w2 p db q (Log.reset L)) := fun w1 w2 hb hd2 hu => by
      rw [hq]; exact log_Reset ((HLN.out.keep (Below.sees hb)).keep (hu.sees logT_disk)) hd2 hf hep ((HH.out.below hb (Nat.lt_of_lt_of_le hB hBs)).upd hu hB (Nat.le_trans hBs hb.size)) hB
    obtain ⟨D2, v2⟩ := q
    clear hrun hq
    have hk1 : ∀ w1 w2, Below w.heap.size w w1 → Upd B diskT w1 w2 → w2.cell? ⟨x, 1, none⟩ = some (.pointer (some ⟨p, 0, none⟩)) := fun w1 w2 hb hu => ((HDB.out.keep (Below.sees hb)).keep (hu.sees diskT_db)).c1
    have HK1 := Lib.hid hk1; have HRES := Lib.hid hres
    clear hk1 hres
    go_enter Tryz.func45, Tryz.ntmps45
    go_wp2_with (first
      | (go_at_call 42; go_must (refine hrec.mono ?_; rintro e w1 ⟨sv, rfl, hown, hb1⟩; obtain ⟨sa, sc, rfl⟩ := owns_shape hown; have h01 := (HDB.out.keep (Below.sees hb1)).c0; have HB1 := Lib.hid hb1; clear hown hb1))
      | (go_at_call 83; go_must (refine (HFL.out _ HB1.out).mono ?_; rintro e w2 ⟨rfl, hd2, hu2⟩; have h12 := HK1.out _ _ HB1.out hu2; have HD2 := Lib.hid hd2; have HU2 := Lib.hid hu2; clear hd2 hu2))
      | (go_at_call 84; go_must (refine (HRES.out _ _ HB1.out HD2.out HU2.out).mono ?_; rintro e w3 ⟨rfl, hd3, hl3, hu3⟩; have HL3 := Lib.hid hl3; have HD3 := Lib.hid hd3; have HU3 := Lib.hid hu3; clear hl3 hd3 hu3)))
    go_ret
    exact ⟨rfl, HD3.out, HL3.out, (Upd.of_below HB1.out).trans ((upd_disk_wal HU2.out).trans HU3.out)⟩
  · have hb : (v != 0) = true := by simpa using hv
    rw [hrun, if_neg hv]
    clear hrun
    go_enter Tryz.func45, Tryz.ntmps45
    go_wp2_with (first
      | (go_at_call 42; go_must (refine hrec.mono ?_; rintro e w1 ⟨sv, rfl, hown, hb1⟩; obtain ⟨sa, sc, rfl⟩ := owns_shape hown; have h01 := (HDB.out.keep (Below.sees hb1)).c0; have HB1 := Lib.hid hb1; clear hown hb1))
      | (go_at_call 83; go_must (refine (HFL.out _ HB1.out).mono ?_; rintro e w2 ⟨rfl, hd2, hu2⟩; have HD2 := Lib.hid hd2; have HU2 := Lib.hid hu2; clear hd2 hu2)))
    go_ret
    exact ⟨rfl, HD2.out, (fun e => absurd e hv), (Upd.of_below HB1.out).trans (upd_disk_wal HU2.out)⟩
def ZeroPost (w : World) (e : Ending) (w' : World) : Prop := e = .returned (.int .i64 0) ∧ Below w.heap.size w w'
set_option maxHeartbeats 1000000 in
theorem db_settle_nil {B : Nat} {w : World} {x db p log : Nat} {m : Meta} {op : Value} {lost : Bool} {L : Log} (h : DbIs B w x db p log m op lost) (hl : LogNow B w p db L) (hr : L.recs = []) :
    Calls Tryz.prog 45 #[.pointer (some ⟨x, 0, none⟩)] w (ZeroPost w) := by
  obtain ⟨bv, rv, hli, hw0, hlo, hfew⟩ := hl
  have hrec := log_Records hli
  rw [hr] at hrec
  have h1 := h.c1
  clear h hli hw0 hlo hfew hr
  go_enter Tryz.func45, Tryz.ntmps45
  go_wp2_with (first
    | (go_at_call 42; go_must (refine hrec.mono ?_; rintro e w1 ⟨sv, rfl, hown, hb1⟩; obtain ⟨sa, sc, rfl⟩ := owns_shape hown; have HB1 := Lib.hid hb1; clear hown hb1)))
  go_ret
  exact ⟨rfl, HB1.out⟩
end Go.Proofs.YthbbammibdhohaaGreatDoor

namespace Go.Proofs.YthbbammibdhohaaGreatDoor
open Go.RowKit Aq Go.Rgn

theorem rec_size {n : Nat} {ps : List Pg} (h : PgsOk n ps) : (recB ps).length = 4 + 516 * ps.length := by
  rw [recB, List.length_append, num_len, pgs_len h.ids]
def SoundInv (w : World) (ps : List Pg) (v : Value) (wr : World) : Prop := ∃ j a : Nat, j ≤ ps.length ∧ a = 4 + j * 516 ∧ v = .int .i64 (a : Int) ∧ Below w.heap.size w wr
set_option maxHeartbeats 1000000 in
set_option maxRecDepth 100000 in
theorem db_sound {B : Nat} {w : World} {x db p log : Nat} {m : Meta} {op : Value} {lost : Bool} {D : Disk} (h : DbIs B w x db p log m op lost) (hd : DiskAt B w db D) (hlog : log ≤ D.kept.length)
    (ps : List Pg) (hps : PgsOk ((D.kept.length - log) / 8) ps) (s : ByteArray) (hs : s.data.toList = recB ps) :
    Calls Tryz.prog 43 #[.pointer (some ⟨x, 0, none⟩), .string s] w (BoolPost w true) := by
  have hsz : s.size = 4 + 516 * ps.length := by rw [show s.size = s.data.toList.length from rfl, hs, rec_size hps]
  have hfew := hps.few
  have hm : D.kept.length ≤ 65536 := by obtain ⟨kb, pv, dn, h⟩ := hd; exact h.ok.most
  obtain ⟨n, hn⟩ : ∃ n, n = (D.kept.length - log) / 8 := ⟨_, rfl⟩
  have hcnt : ∀ w1, Below w.heap.size w w1 → Calls Tryz.prog 24 #[.pointer (some ⟨x, 0, none⟩)] w1 (IntPost w1 .i64 (n : Int)) := fun w1 hb => by
    rw [hn]; exact db_Count (h.keep (Below.sees hb)) (hd.keep (Below.sees hb)) hlog
  rw [← hn] at hps
  have hval0 : Calls Tryz.prog 60 #[.string s] w (ValT w ps.length) := by
    have h3 := pagedb_value w s (by omega)
    have hl : (num ps.length 4).length = 4 := num_len _ _
    rw [hs, recB, List.take_left' hl, val_num 4 _ (by omega)] at h3
    exact h3.mono fun e w' h => ⟨h.1, by obtain ⟨k, hk⟩ := h.2; rw [hk]; exact ⟨rfl, rfl, rfl, Nat.le_refl _, fun _ _ => rfl⟩⟩
  have hval2 : ∀ j y, ps[j]? = some y → ∀ w1, Calls Tryz.prog 60 #[.string (s.extract (4 + j * 516) s.size)] w1 (ValT w1 y.1) ∧ y.1 < n := fun j y hy w1 => by
    obtain ⟨hj, rfl⟩ := List.getElem?_eq_some_iff.1 hy
    have hyo := hps.ids _ (List.getElem_mem hj)
    have hl4 : (num (ps[j]).1 4).length = 4 := num_len _ _
    have h3 := pagedb_value w1 (s.extract (4 + j * 516) s.size) (by rw [ByteArray.size_extract]; omega)
    have e1 : (s.extract (4 + j * 516) s.size).data.toList = num (ps[j]).1 4 ++ ((ps[j]).2 ++ (ps.drop (j + 1)).flatMap pgB) := by
      rw [Lib.extract_data, List.take_of_length_le (by rw [List.length_drop]; exact Nat.le_refl _), hs, rec_at hps j hj]
    rw [e1, List.take_left' hl4, val_num 4 _ (by omega)] at h3
    exact ⟨h3.mono fun e w' h => ⟨h.1, by obtain ⟨k, hk⟩ := h.2; rw [hk]; exact ⟨rfl, rfl, rfl, Nat.le_refl _, fun _ _ => rfl⟩⟩, hyo.1⟩
  have g0 : ¬ ((s.size : Int) < 4) := by omega
  have g1 : (((s.size : Int) - 4) % 516 == 0) = true := by simp; omega
  have g2 : (((s.size : Int) - 4) % 516 != 0) = false := by simp; omega
  have g3 : ((s.size : Int) - 4) / 516 = (ps.length : Int) := by omega
  have g4 : (0 : Int) ≤ (s.size : Int) - 4 := by omega
  have g5 : (s.size : Int) ≤ 70000 := by omega
  have HV := Lib.hid hval2; have HC := Lib.hid hcnt; have HSZ := Lib.hid hsz
  clear h hd hps hs hn hval2 hcnt hsz
  go_enter Tryz.func43, Tryz.ntmps43
  go_wp2_with (first
    | (go_at_call 60; go_must (refine hval0.mono ?_; rintro e w1 ⟨rfl, hb1⟩; have HB1 := Lib.hid hb1; clear hb1)))
  have HN : Hid (s.size = 4 + 516 * ps.length) := HSZ.out
  clear g0 g1 g2 g3 g4 hval0
  go_loopw [5] (fun v wr => SoundInv w ps v wr) (fun v _ => s.size - (intOf v).toNat)
  case atStart => exact ⟨0, 4, by omega, rfl, rfl, HB1.out⟩
  case round =>
    obtain ⟨j, a, hj, ha, rfl, hbj⟩ := hrel
    have hN := HN.out
    by_cases hjl : j < ps.length
    · obtain ⟨y, hy⟩ : ∃ y, ps[j]? = some y := ⟨ps[j], by simp [hjl]⟩
      obtain ⟨hv, hyn⟩ : (∀ w1, Calls Tryz.prog 60 #[.string (s.extract a s.size)] w1 (ValT w1 y.1)) ∧ y.1 < n := by
        rw [ha]; exact ⟨fun w1 => (HV.out j y hy w1).1, (HV.out j y hy wr).2⟩
      have hcn : ∀ w1, Below wr.heap.size wr w1 → Calls Tryz.prog 24 #[.pointer (some ⟨x, 0, none⟩)] w1 (IntPost w1 .i64 (n : Int)) := fun w1 hb => HC.out w1 (hbj.trans (hb.mono hbj.size))
      have q1 : (a : Int) < (s.size : Int) := by omega
      have q2 : ¬ ((s.size : Int) ≤ (a : Int)) := by omega
      have q3 : (a : Int) ≤ (s.size : Int) := by omega
      have q4 : ¬ ((n : Int) ≤ (y.1 : Int)) := by omega
      have q5 : (y.1 : Int) < (n : Int) := by omega
      have HA : Hid (a + 516 = 4 + (j + 1) * 516) := by show _ = _; omega
      have HAL : Hid (a < s.size) := by show _ < _; omega
      have HBJ := Lib.hid hbj; have HCN := Lib.hid hcn
      clear hN ha hy hbj hcn hyn
      go_wp2_with (first
        | (go_at_call 60; go_must (refine (hv _).mono ?_; rintro e w2 ⟨rfl, hb2⟩; have HB2 := Lib.hid hb2; clear hb2))
        | (go_at_call 24; go_must (refine (HCN.out _ HB2.out).mono ?_; rintro e w3 ⟨rfl, hb3⟩; have HB3 := Lib.hid hb3; clear hb3)))
      go_roundw
      case rel => exact ⟨j + 1, a + 516, hjl, HA.out, rfl, HBJ.out.trans ((HB2.out.trans (HB3.out.mono HB2.out.size)).mono HBJ.out.size)⟩
      case measure => have := HAL.out; simp [intOf]; omega
    · have q1 : ¬ ((a : Int) < (s.size : Int)) := by omega
      have q2 : (s.size : Int) ≤ (a : Int) := by omega
      have HBJ := Lib.hid hbj
      clear hN ha hbj
      go_wp2
      go_ret
      exact ⟨rfl, HBJ.out⟩
end Go.Proofs.YthbbammibdhohaaGreatDoor

namespace Aq
/-- what a sector may hold, if the power goes now -/
def Disk.poss (D : Disk) (i : Nat) (s : Bs) : Prop := D.kept[i]? = some s ∨ (i, s) ∈ D.pend
theorem does_kept (D : Disk) : D.does.1.kept = D.kept ∧ D.does.1.pend = D.pend := by
  unfold Disk.does; split <;> exact ⟨rfl, rfl⟩
theorem does_zero {D : Disk} (h : D.does.2 = 0) : D.does.1.down = D.down := by
  unfold Disk.does at h ⊢; split
  · rename_i h'; rw [if_pos h'] at h; cases h
  · rfl
theorem does_ten {D : Disk} (h : D.does.2 ≠ 0) : D.does.2 = 10 ∧ D.does.1.down = true := by
  unfold Disk.does at h ⊢; split
  · exact ⟨rfl, rfl⟩
  · rename_i h'; rw [if_neg h'] at h; exact absurd rfl h
theorem does_armed {D : Disk} (h : D.armed = false) : D.does = (D, 0) := by
  unfold Disk.does
  rw [h]
  cases D
  simp at h ⊢
  exact h
theorem lastAt_mem {i : Nat} {s : Bs} : ∀ {p : List (Nat × Bs)}, lastAt i p = some s → (i, s) ∈ p := by
  intro p
  induction p with
  | nil => intro h; cases h
  | cons x p ih =>
    intro h
    simp only [lastAt] at h
    split at h
    · rename_i s' hs'
      injection h with h; subst h
      exact List.mem_cons_of_mem _ (ih hs')
    · split at h
      · rename_i hx
        injection h with h; subst h; subst hx
        exact List.mem_cons_self ..
      · cases h
theorem apply_len (k : List Bs) (p : List (Nat × Bs)) : (apply k p).length = k.length := by
  unfold apply
  induction p generalizing k with
  | nil => rfl
  | cons x p ih => rw [List.foldl_cons, ih, List.length_set]
theorem apply_get (p : List (Nat × Bs)) : ∀ (k : List Bs) (i : Nat), i < k.length → (apply k p)[i]? = some ((lastAt i p).getD (k.getD i [])) := by
  induction p with
  | nil => intro k i hi; simp [apply, lastAt, List.getD_eq_getElem?_getD, hi]
  | cons x p ih =>
    intro k i hi
    show (apply (k.set x.1 x.2) p)[i]? = _
    rw [ih (k.set x.1 x.2) i (by simpa using hi)]
    simp only [lastAt]
    cases hl : lastAt i p with
    | some s => rfl
    | none =>
      simp only [Option.getD_none, List.getD_eq_getElem?_getD]
      by_cases hx : x.1 = i
      · subst hx; simp [hi]
      · simp [hx]
theorem kept_sub {x : Nat × Bs} : ∀ {p : List (Nat × Bs)} {ks : List Bool}, x ∈ kept p ks → x ∈ p := by
  intro p
  induction p with
  | nil => intro ks h; cases ks <;> cases h
  | cons y p ih =>
    intro ks h
    cases ks with
    | nil => cases h
    | cons k ks =>
      simp only [kept] at h
      split at h
      · rcases List.mem_cons.1 h with rfl | h
        · exact List.mem_cons_self ..
        · exact List.mem_cons_of_mem _ (ih h)
      · exact List.mem_cons_of_mem _ (ih h)
theorem look_poss {D : Disk} {i : Nat} (hi : i < D.kept.length) : D.poss i (D.look i) := by
  unfold Disk.look
  cases h : lastAt i D.pend with
  | some s => exact .inr (lastAt_mem h)
  | none => exact .inl (by simp [List.getD_eq_getElem?_getD, hi])
theorem poss_still {D : Disk} (hp : D.pend = []) {i : Nat} {s : Bs} (h : D.poss i s) : s = D.look i := by
  rcases h with h | h
  · simp [Disk.look, hp, lastAt, List.getD_eq_getElem?_getD, h]
  · rw [hp] at h; cases h
theorem poss_lt {D : Disk} (hok : D.Ok) {i : Nat} {s : Bs} (h : D.poss i s) : i < D.kept.length ∧ s.length = 64 := by
  rcases h with h | h
  · obtain ⟨hi, rfl⟩ := List.getElem?_eq_some_iff.1 h
    exact ⟨hi, hok.len _ (List.getElem_mem hi)⟩
  · exact hok.ats _ h
/-- the power comes back -/
structure Back (D D' : Disk) : Prop where
  pend : D'.pend = []
  down : D'.down = false
  armed : D'.armed = false
  len : D'.kept.length = D.kept.length
  look : ∀ i, i < D.kept.length → D.poss i (D'.look i)
theorem on_back {D : Disk} (hd : D.down = true) (ks : List Bool) : (D.on ks).2 = 0 ∧ Back D (D.on ks).1 := by
  unfold Disk.on
  rw [if_pos hd]
  refine ⟨rfl, rfl, rfl, rfl, apply_len _ _, fun i hi => ?_⟩
  have h := apply_get (Aq.kept D.pend ks) D.kept i hi
  have e : (⟨apply D.kept (Aq.kept D.pend ks), [], false, false, 0⟩ : Disk).look i = (lastAt i (Aq.kept D.pend ks)).getD (D.kept.getD i []) := by
    simp only [Disk.look, lastAt, Option.getD_none, List.getD_eq_getElem?_getD, h, Option.getD_some]
  rw [e]
  cases hl : lastAt i (Aq.kept D.pend ks) with
  | some s => exact .inr (kept_sub (lastAt_mem hl))
  | none => exact .inl (by simp [List.getD_eq_getElem?_getD, hi])
theorem lastAt_snoc (i j : Nat) (s : Bs) : ∀ p : List (Nat × Bs), lastAt i (p ++ [(j, s)]) = if j = i then some s else lastAt i p := by
  intro p
  induction p with
  | nil => rfl
  | cons x p ih =>
    simp only [List.cons_append, lastAt, ih]
    by_cases h : j = i
    · simp [h]
    · simp only [h, if_false]
/-- an act that is one of a disk of n sectors -/
def ActIn (n : Nat) : DAct → Prop
  | .W i s => i < n ∧ s.length ≤ 64
  | .F => True
theorem pad_len {s : Bs} (h : s.length ≤ 64) : (pad s).length = 64 := by simp [pad, zeros]; omega
/-- what an act does -/
structure Acted (D : Disk) (a : DAct) (D' : Disk) : Prop where
  len : D'.kept.length = D.kept.length
  down : D'.down = false
  ok : D'.Ok
  look : ∀ i, i < D.kept.length → D'.look i = match a with | .W j s => if j = i then pad s else D.look i | .F => D.look i
  poss : ∀ i s, D'.poss i s → match a with | .W j t => D.poss i s ∨ (j = i ∧ s = pad t) | .F => s = D.look i
structure Refused (D D' : Disk) : Prop where
  kept : D'.kept = D.kept
  pend : D'.pend = D.pend
  down : D'.down = true
theorem does_ok {D : Disk} (h : D.Ok) : D.does.1.Ok := by
  have hk := does_kept D
  refine ⟨by rw [hk.1]; exact h.pos, by rw [hk.1]; exact h.most, by rw [hk.1]; exact h.len, by rw [hk.1, hk.2]; exact h.ats, ?_⟩
  have := h.left
  unfold Disk.does
  split
  · exact h.left
  · show (if D.armed then D.left - 1 else D.left) < _
    split <;> omega
theorem act_two {D : Disk} (hok : D.Ok) (hd : D.down = false) {a : DAct} (ha : ActIn D.kept.length a) :
    ((D.act a).2 = 0 ∧ Acted D a (D.act a).1) ∨ ((D.act a).2 = 10 ∧ Refused D (D.act a).1 ∧ (D.act a).1.Ok) := by
  have hk := does_kept D
  have hdo := does_ok hok
  cases a with
  | W i s =>
    have hi : D.is (i : Int) = true := by simp [Disk.is]; exact ha.1
    have e : D.act (.W i s) = if D.does.2 = 0 then ({ D.does.1 with pend := D.pend ++ [(i, pad s)] }, 0) else D.does := by
      show D.write (i : Int) s = _
      unfold Disk.write
      have h2 : ¬ (64 < s.length) := by have := ha.2; omega
      simp [hd, hi, h2]
    rw [e]
    by_cases h0 : D.does.2 = 0
    · rw [if_pos h0]
      refine .inl ⟨rfl, by show D.does.1.kept.length = _; rw [hk.1], by show D.does.1.down = false; rw [does_zero h0, hd], ?_, fun j hj => ?_, fun j t h => ?_⟩
      · refine ⟨hdo.pos, hdo.most, hdo.len, fun x hx => ?_, hdo.left⟩
        show x.1 < D.does.1.kept.length ∧ _
        rw [hk.1]
        rcases List.mem_append.1 hx with hx | hx
        · exact hok.ats x hx
        · rw [List.mem_singleton.1 hx]; exact ⟨ha.1, pad_len ha.2⟩
      · simp only [Disk.look, hk.1, lastAt_snoc]
        by_cases hij : i = j
        · simp [hij]
        · simp [hij]
      · rcases h with h | h
        · exact .inl (.inl (by simpa [hk.1] using h))
        · rcases List.mem_append.1 h with h | h
          · exact .inl (.inr h)
          · have := List.mem_singleton.1 h
            injection this with h1 h2
            exact .inr ⟨h1.symm, h2⟩
    · rw [if_neg h0]
      exact .inr ⟨(does_ten h0).1, ⟨hk.1, hk.2, (does_ten h0).2⟩, hdo⟩
  | F =>
    have e : D.act .F = if D.does.2 = 0 then ({ D.does.1 with kept := apply D.kept D.pend, pend := [] }, 0) else D.does := by
      show D.flush = _
      unfold Disk.flush
      simp [hd]
    rw [e]
    by_cases h0 : D.does.2 = 0
    · rw [if_pos h0]
      have hl : ∀ j, j < D.kept.length → (⟨apply D.kept D.pend, [], D.does.1.down, D.does.1.armed, D.does.1.left⟩ : Disk).look j = D.look j := fun j hj => by
        have h := apply_get D.pend D.kept j hj
        simp only [Disk.look, lastAt, Option.getD_none, List.getD_eq_getElem?_getD, h, Option.getD_some]
      refine .inl ⟨rfl, apply_len _ _, by show D.does.1.down = false; rw [does_zero h0, hd], ?_, fun j hj => hl j hj, fun j t h => ?_⟩
      · refine ⟨by show 0 < (apply D.kept D.pend).length; rw [apply_len]; exact hok.pos, by show (apply D.kept D.pend).length ≤ _; rw [apply_len]; exact hok.most, fun s hs => ?_, (fun x hx => by cases hx), hdo.left⟩
        obtain ⟨j, hj, rfl⟩ := List.getElem_of_mem hs
        have hj' : j < D.kept.length := by rw [← apply_len D.kept D.pend]; exact hj
        have h := apply_get D.pend D.kept j hj'
        rw [List.getElem?_eq_getElem hj] at h
        injection h with h
        rw [h]
        cases hl2 : lastAt j D.pend with
        | some s => exact (hok.ats _ (lastAt_mem hl2)).2
        | none => simp only [Option.getD_none, List.getD_eq_getElem?_getD, List.getElem?_eq_getElem hj', Option.getD_some]; exact hok.len _ (List.getElem_mem _)
      · rcases h with h | h
        · have hj : j < D.kept.length := by rw [← apply_len D.kept D.pend]; exact (List.getElem?_eq_some_iff.1 h).1
          have h2 := apply_get D.pend D.kept j hj
          rw [show (apply D.kept D.pend)[j]? = some t from h] at h2
          injection h2
        · cases h
    · rw [if_neg h0]
      exact .inr ⟨(does_ten h0).1, ⟨hk.1, hk.2, (does_ten h0).2⟩, hdo⟩
theorem Refused.poss {D D' : Disk} (h : Refused D D') {i : Nat} {s : Bs} : D'.poss i s ↔ D.poss i s := by
  unfold Disk.poss; rw [h.kept, h.pend]
/-- the last write of a sector in a list of acts -/
def lastW (i : Nat) : List DAct → Option Bs
  | [] => none
  | a :: l => match lastW i l with
    | some s => some s
    | none => match a with
      | .W j s => if j = i then some (pad s) else none
      | .F => none
structure Ran (D : Disk) (l : List DAct) (D' : Disk) : Prop where
  len : D'.kept.length = D.kept.length
  down : D'.down = false
  ok : D'.Ok
  look : ∀ i, i < D.kept.length → D'.look i = (lastW i l).getD (D.look i)
  poss : ∀ i s, i < D.kept.length → D'.poss i s → D.poss i s ∨ ∃ t, .W i t ∈ l ∧ s = pad t
/-- what was done of a list of acts, whose next one was refused -/
def Stopped (D : Disk) (l : List DAct) (D' : Disk) : Prop := ∃ (m : List DAct) (a : DAct) (r : List DAct) (D1 : Disk), l = m ++ a :: r ∧ (D.run m).2 = 0 ∧ D1 = (D.run m).1 ∧ Ran D m D1 ∧ Refused D1 D' ∧ D'.Ok
theorem Ran.nil {D : Disk} (hok : D.Ok) (hd : D.down = false) : Ran D [] D := ⟨rfl, hd, hok, fun _ _ => rfl, fun _ _ _ h => .inl h⟩
theorem Ran.cons {D D1 D' : Disk} {a : DAct} {l : List DAct} (h1 : Acted D a D1) (h2 : Ran D1 l D') : Ran D (a :: l) D' := by
  refine ⟨h2.len.trans h1.len, h2.down, h2.ok, fun i hi => ?_, fun i s hi h => ?_⟩
  · have hi1 : i < D1.kept.length := by rw [h1.len]; exact hi
    rw [h2.look i hi1, h1.look i hi]
    simp only [lastW]
    cases lastW i l with
    | some s => rfl
    | none =>
      cases a with
      | F => rfl
      | W j s => by_cases hj : j = i <;> simp [hj]
  · have hi1 : i < D1.kept.length := by rw [h1.len]; exact hi
    rcases h2.poss i s hi1 h with h | ⟨t, ht, hs⟩
    · have h3 := h1.poss i s h
      cases a with
      | F => have e : s = D.look i := h3; rw [e]; exact .inl (look_poss hi)
      | W j t =>
        rcases h3 with h3 | ⟨rfl, h4⟩
        · exact .inl h3
        · exact .inr ⟨t, List.mem_cons_self .., h4⟩
    · exact .inr ⟨t, List.mem_cons_of_mem _ ht, hs⟩
theorem run_two {l : List DAct} : ∀ {D : Disk}, D.Ok → D.down = false → (∀ a ∈ l, ActIn D.kept.length a) →
    ((D.run l).2 = 0 ∧ Ran D l (D.run l).1) ∨ ((D.run l).2 = 10 ∧ Stopped D l (D.run l).1) := by
  induction l with
  | nil => intro D hok hd _; exact .inl ⟨rfl, Ran.nil hok hd⟩
  | cons a l ih =>
    intro D hok hd hl
    rcases act_two hok hd (hl a (List.mem_cons_self ..)) with ⟨h0, h1⟩ | ⟨h0, h1, h2⟩
    · have e : D.run (a :: l) = (D.act a).1.run l := by simp only [Disk.run]; rw [if_pos h0]
      rw [e]
      rcases ih h1.ok h1.down (fun b hb => by rw [h1.len]; exact hl b (List.mem_cons_of_mem _ hb)) with ⟨h2, h3⟩ | ⟨h2, m, b, r, D1, h3, h4, h5, h6, h7, h8⟩
      · exact .inl ⟨h2, Ran.cons h1 h3⟩
      · refine .inr ⟨h2, a :: m, b, r, D1, by rw [h3]; rfl, ?_, ?_, Ran.cons h1 h6, h7, h8⟩
        · simp only [Disk.run]; rw [if_pos h0]; exact h4
        · simp only [Disk.run]; rw [if_pos h0]; exact h5
    · have e : D.run (a :: l) = D.act a := by simp only [Disk.run]; rw [if_neg (by rw [h0]; decide)]
      rw [e]
      exact .inr ⟨h0, [], a, l, D, rfl, rfl, rfl, Ran.nil hok hd, h1, h2⟩
/-- behind a flush nothing is pending -/
theorem flushed {D : Disk} {l : List DAct} (hok : D.Ok) (hd : D.down = false) (hl : ∀ a ∈ l, ActIn D.kept.length a) (h : (D.run (l ++ [.F])).2 = 0) : ∀ i s, (D.run (l ++ [.F])).1.poss i s → s = (D.run (l ++ [.F])).1.look i := by
  rw [Disk.run_append] at h ⊢
  by_cases h0 : (D.run l).2 = 0
  · simp only [h0, if_true, Disk.run_one] at h ⊢
    rcases run_two hok hd hl with ⟨_, h2⟩ | ⟨h1, _⟩
    · rcases act_two (a := .F) h2.ok h2.down trivial with ⟨_, h4⟩ | ⟨h3, _⟩
      · intro i s hp
        have e : s = (D.run l).1.look i := h4.poss i s hp
        have hi := (poss_lt h4.ok hp).1
        rw [h4.len] at hi
        rw [e]; exact (h4.look i hi).symm
      · rw [h3] at h; cases h
    · rw [h1] at h0; cases h0
  · rw [if_neg h0] at h; exact absurd h h0
theorem lastW_append (i : Nat) (l m : List DAct) : lastW i (l ++ m) = (lastW i m).or (lastW i l) := by
  induction l with
  | nil => simp [lastW]
  | cons a l ih =>
    simp only [List.cons_append, lastW, ih]
    cases lastW i m with
    | some s => rfl
    | none => simp
theorem lastW_mem {i : Nat} {l : List DAct} {s : Bs} (h : lastW i l = some s) : ∃ t, .W i t ∈ l ∧ s = pad t := by
  induction l with
  | nil => cases h
  | cons a l ih =>
    simp only [lastW] at h
    split at h
    · rename_i s' hs'
      injection h with h; subst h
      obtain ⟨t, ht, e⟩ := ih hs'
      exact ⟨t, List.mem_cons_of_mem _ ht, e⟩
    · split at h
      · rename_i j t
        split at h
        · rename_i hj
          injection h with h; subst h; subst hj
          exact ⟨t, List.mem_cons_self .., rfl⟩
        · cases h
      · cases h
theorem lastW_none {i : Nat} {l : List DAct} (h : ∀ t, .W i t ∉ l) : lastW i l = none := by
  cases hl : lastW i l with
  | none => rfl
  | some s => obtain ⟨t, ht, _⟩ := lastW_mem hl; exact absurd ht (h t)
end Aq

namespace Go.Proofs.YthbbammibdhohaaGreatDoor
open Go.RowKit Aq Go.Rgn

def redoAll (log : Nat) (pss : List (List Pg)) : List DAct := pss.flatMap (redoActs log)
def openActs (log e : Nat) (pss : List (List Pg)) : List DAct := redoAll log pss ++ (if pss = [] then [] else [.F, .W 0 (headB (e + 1) 0), .F])
def meta00 : Meta := ⟨0, 0, 0, 0, 0, 0, 0⟩
def meta0 : Meta := ⟨0, 0, 0, 0, 1, 0, 0⟩
theorem wal_Open_any {B : Nat} {w : World} {db : Nat} {D : Disk} (hd : DiskAt B w db D) (hdn : D.down = false) (n : Nat) (h2 : 2 ≤ n) (hn : n ≤ D.kept.length) (epoch : Nat) (recs : List Bs) (hl : LogOn D n epoch recs) (hH : HalfAt w) (hB : 0 < B) :
    Calls Tryz.prog 41 #[.pointer (some ⟨db, 0, none⟩), .int .i64 0, .int .i64 (n : Int)] w (OpenPost B w db (freshLog n epoch recs)) := by
  rcases hl with ⟨h1, rfl, rfl⟩ | ⟨h1, h3, h4, h5, h6⟩
  · exact wal_Open_zero hd hdn n h2 hn h1
  · exact wal_Open_head hd hdn n h2 hn epoch recs h1 h3 h4 h5 h6 hH hB
set_option maxHeartbeats 400000 in
theorem db_Open_nil (w : World) (n : Int) : Calls Tryz.prog 11 #[.pointer none, .int .i64 n] w (RefPost w 1) := by
  have h := wal_Open_nil w 0 n
  go_enter Tryz.func11, Tryz.ntmps11
  go_wp2_with (first | (go_at_call 41; refine h.mono ?_; rintro e w1 ⟨rfl, hb1⟩; have HB1 := Lib.hid hb1; clear hb1))
  go_ret2
  exact ⟨rfl, HB1.out⟩
set_option maxHeartbeats 400000 in
theorem db_Open_down {B : Nat} {w : World} {db : Nat} {D : Disk} (hd : DiskAt B w db D) (hdn : D.down = true) (n : Int) : Calls Tryz.prog 11 #[.pointer (some ⟨db, 0, none⟩), .int .i64 n] w (RefPost w 10) := by
  have h := wal_Open_down hd hdn 0 n
  clear hd hdn
  go_enter Tryz.func11, Tryz.ntmps11
  go_wp2_with (first | (go_at_call 41; refine h.mono ?_; rintro e w1 ⟨rfl, hb1⟩; have HB1 := Lib.hid hb1; clear hb1))
  go_ret2
  exact ⟨rfl, HB1.out⟩
set_option maxHeartbeats 400000 in
theorem db_Open_arg {B : Nat} {w : World} {db : Nat} {D : Disk} (hd : DiskAt B w db D) (hdn : D.down = false) (n : Int) (hn : n < 2 ∨ (D.kept.length : Int) < n) : Calls Tryz.prog 11 #[.pointer (some ⟨db, 0, none⟩), .int .i64 n] w (RefPost w 2) := by
  have h := wal_Open_arg hd hdn n hn
  clear hd hdn hn
  go_enter Tryz.func11, Tryz.ntmps11
  go_wp2_with (first | (go_at_call 41; refine h.mono ?_; rintro e w1 ⟨rfl, hb1⟩; have HB1 := Lib.hid hb1; clear hb1))
  go_ret2
  exact ⟨rfl, HB1.out⟩
abbrev newCells (db p log : Nat) : Array Value := #[.pointer (some ⟨db, 0, none⟩), .pointer (some ⟨p, 0, none⟩), .int .i64 (log : Int), .int .i64 0, .int .i64 0, .int .i64 0, .int .i64 0, .int .i64 0, .int .i64 0, .int .i64 0, .pointer none, .bool false]
theorem db_new {B : Nat} {w : World} (db p log : Nat) (hB : B ≤ w.heap.size) : DbIs B (w.alloc (.cells (newCells db p log) tDB)) w.heap.size db p log meta00 (.pointer none) false := ⟨hB, heap_alloc_new w _⟩
set_option maxHeartbeats 400000 in
theorem db_Open_small {B : Nat} {w : World} {db : Nat} {D : Disk} (hd : DiskAt B w db D) (hdn : D.down = false) (hBs : B ≤ w.heap.size) (n : Nat) (h2 : 2 ≤ n) (hn : n ≤ D.kept.length) (epoch : Nat) (recs : List Bs) (hl : LogOn D n epoch recs) (hH : HalfAt w) (hB : 0 < B) (hs : (D.kept.length - n) / 8 < 4) :
    Calls Tryz.prog 11 #[.pointer (some ⟨db, 0, none⟩), .int .i64 (n : Int)] w (RefPost w 2) := by
  have h := wal_Open_any hd hdn n h2 hn epoch recs hl hH hB
  have hc : ∀ p w1, Below w.heap.size w w1 → Calls Tryz.prog 24 #[.pointer (some ⟨w1.heap.size, 0, none⟩)] (w1.alloc (.cells (newCells db p n) tDB)) (IntPost (w1.alloc (.cells (newCells db p n) tDB)) .i64 (((D.kept.length - n) / 8 : Nat) : Int)) := fun p w1 hb =>
    db_Count (db_new db p n (Nat.le_trans hBs hb.size)) (hd.keep (Below.sees (hb.alloc hb.size _))) hn
  obtain ⟨c, hcc⟩ : ∃ c, c = (D.kept.length - n) / 8 := ⟨_, rfl⟩
  rw [← hcc] at hc hs
  have g1 : (c : Int) < 4 := by omega
  clear hd hdn hH hl hcc
  go_enter Tryz.func11, Tryz.ntmps11
  go_wp2_with (first
    | (go_at_call 41; go_must (refine h.mono ?_; rintro e w1 ⟨p, rfl, hl1, hp1, hb1⟩; have HC := hc p w1 hb1; have HB1 := Lib.hid hb1; clear hb1 hl1 hp1))
    | (go_at_call 24; go_must (refine HC.mono ?_; rintro e w2 ⟨rfl, hb2⟩; have HB2 := Lib.hid hb2; clear hb2)))
  go_ret2
  exact ⟨rfl, HB1.out.trans (((Below.refl _ w1).alloc (Nat.le_refl _) _).mono HB1.out.size |>.trans (HB2.out.mono (Nat.le_trans HB1.out.size (by simp))))⟩
end Go.Proofs.YthbbammibdhohaaGreatDoor
