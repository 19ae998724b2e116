/- sector.New and (*Disk).On come to the model's. No condition. castagnoli.Sum comes to one function of the bytes. No condition. page.is, put, Seal come to the model's page. No condition beyond those stated. Numbers of four bytes: pagedb.value, page.get, pagedb.number, wal.number, wal.value. Conditions as stated. page.Sectors cuts a page into its eight sectors. Condition: 512 bytes. -/
import Derived.StillTailTactics
import Derived.Lib.Strings
import Derived.Test.YthbbammibdhohaaGreatDoorZD2
set_option linter.unusedSimpArgs false
set_option linter.unusedVariables false
namespace Go.Proofs.YthbbammibdhohaaGreatDoor
open Go.RowKit Aq Go.Rgn

theorem Tryz.info_block : (Tryz.prog.info? 111).map (fun i => (i.zero, i.size, i.bytes)) = some (some (.agg (List.replicate 64 (Value.int .u8 0)).toArray), 64, 64) := by kernel_rfl
theorem made_same (k : Nat) (v : Value) (m : Nat) (hk : 0 < k) : madeCells (List.replicate k v).toArray m = (List.replicate m v).toArray := by
  unfold madeCells
  apply Array.ext_getElem?
  intro i
  by_cases h : i < m
  · have hm : i % k < k := Nat.mod_lt _ hk
    simp [h, hm]
  · simp [h]
theorem made_zero (n : Nat) : madeCells (List.replicate 64 (Value.int .u8 0)).toArray (n * 64) = ((List.replicate n (zeros 64)).flatten.map byt).toArray := by
  have e : ((List.replicate n (zeros 64)).flatten.map byt) = List.replicate (n * 64) (byt 0) := by
    rw [List.eq_replicate_iff]
    refine ⟨?_, fun v hv => ?_⟩
    · rw [List.length_map, flat_len _ (by intro s hs; rw [List.eq_of_mem_replicate hs]; simp [zeros])]; simp
    · simp only [List.mem_map, List.mem_flatten] at hv
      obtain ⟨c, ⟨l, hl, hc⟩, rfl⟩ := hv
      rw [List.eq_of_mem_replicate hl] at hc
      rw [List.eq_of_mem_replicate hc]
  rw [e]
  exact made_same 64 _ _ (by decide)

def NewPost (B : Nat) (w : World) (n : Int) (e : Ending) (w' : World) : Prop :=
  (n < 1 ∨ 65536 < n) ∧ e = .returned (.tuple #[.pointer none, .int .i64 2]) ∧ w' = w ∨
  (1 ≤ n ∧ n ≤ 65536) ∧ ∃ b, e = .returned (.tuple #[.pointer (some ⟨b, 0, none⟩), .int .i64 0]) ∧ DiskAt B w' b (Disk.new n.toNat) ∧ Below w.heap.size w w' ∧ w.heap.size ≤ b

set_option maxHeartbeats 1000000 in
theorem disk_New (B : Nat) (w : World) (n : Int) (hB : B ≤ w.heap.size) : Calls Tryz.prog 9 #[.int .i64 n] w (NewPost B w n) := by
  by_cases h1 : n < 1
  · go_enter Tryz.func9, Tryz.ntmps9
    go_wp2
    go_ret2
    exact .inl ⟨.inl h1, rfl, rfl⟩
  · by_cases h2 : 65536 < n
    · go_enter Tryz.func9, Tryz.ntmps9
      go_wp2
      go_ret2
      exact .inl ⟨.inr h2, rfl, rfl⟩
    · obtain ⟨i0, hin, hz0, hz1, hz2⟩ := info_parts Tryz.info_block
      have hmk := run_make (P := Tryz.prog) w 85 111 i0 _ Tryz.underlying85 hin hz0 .i64 .i64 n n (by omega) (Int.le_refl _) (by rw [hz2]; omega) (by omega)
      rw [hz1] at hmk
      simp only [Value.cells] at hmk
      rw [made_zero] at hmk
      clear hin hz0 hz1 hz2
      have e1 : ¬ n < 1 := h1
      obtain ⟨w1, hw1⟩ : ∃ w1, w1 = w.alloc (.cells ((List.replicate n.toNat (zeros 64)).flatten.map byt).toArray 111) := ⟨_, rfl⟩
      rw [← hw1] at hmk
      have HW1 := Lib.hid hw1
      clear hw1
      go_enter Tryz.func9, Tryz.ntmps9
      go_wp2
      go_ret2
      have hl : ((List.replicate n.toNat (zeros 64)) : List Bs).length = n.toNat := by simp
      refine .inr ⟨⟨by omega, by omega⟩, w1.heap.size, rfl, ⟨w.heap.size, .slice none 0 0, 0, ?_⟩, ?_, by rw [HW1.out]; simp⟩
      · refine ⟨by rw [HW1.out]; simp; omega, hB, ?_, ?_, World.ownsRow_nil _ _ _ _, ⟨?_, ?_, ?_, (fun x hx => by cases hx), by show 0 < _; omega⟩⟩
        · rw [heap_alloc_new]; simp [diskCells, Disk.new]
        · rw [World.heap_alloc_old' _ _ _ (by rw [HW1.out]; simp), HW1.out]; exact heap_alloc_new w _
        · simp [Disk.new]; omega
        · simp [Disk.new]; omega
        · intro s hs; rw [List.eq_of_mem_replicate hs]; simp [zeros]
      · rw [HW1.out]; exact ((Below.refl _ w).alloc (Nat.le_refl _) _).alloc (by simp) _

theorem kept_take (ks : List Bool) : ∀ (p : List (Nat × Bs)) (j : Nat) (hj : j < p.length), kept (p.take (j + 1)) ks = kept (p.take j) ks ++ (if ks[j]? = some true then [p[j]] else []) := by
  induction ks with
  | nil =>
    intro p j hj
    have : ∀ q : List (Nat × Bs), kept q [] = [] := fun q => by cases q <;> rfl
    simp [this]
  | cons k ks ih =>
    intro p j hj
    cases p with
    | nil => simp at hj
    | cons x p =>
      cases j with
      | zero =>
        have h0 : ∀ l, kept ([] : List (Nat × Bs)) l = [] := fun l => rfl
        cases k <;> simp [kept]
      | succ j =>
        have := ih p j (by simpa using hj)
        cases k <;> simp [kept, this]

def OnInv (B : Nat) (w : World) (b kb : Nat) (pv : Value) (dn : Int) (D : Disk) (ks : List Bool) (v : Value) (wr : World) : Prop :=
  ∃ j : Nat, j ≤ D.pend.length ∧ v = .int .i64 (j : Int) ∧ DiskIs B wr b kb pv dn { D with kept := apply D.kept (kept (D.pend.take j) ks) } ∧ Upd B diskT w wr

set_option maxHeartbeats 2000000 in
set_option maxRecDepth 100000 in
theorem on_ok {B : Nat} {w : World} {b : Nat} {D : Disk} (h : DiskAt B w b D) (hd : D.down = true) (ka : Option Addr) (kc : Nat) (ks : List Bool) (hkl : ks.length ≤ 9223372036854775807)
    (hks : ∀ wr, Upd B diskT w wr → ∀ t (ht : t < ks.length), ∃ g off, ka = some ⟨g, off, none⟩ ∧ wr.cell? ⟨g, off + t, none⟩ = some (.bool ks[t])) :
    Calls Tryz.prog 34 #[.pointer (some ⟨b, 0, none⟩), .slice ka ks.length kc] w (DiskPost B w b (⟨apply D.kept (kept D.pend ks), [], false, false, 0⟩, 0)) := by
  obtain ⟨kb, pv, dn, h⟩ := h
  have hnone : ∀ w1, DiskIs B w1 b kb pv dn D → Calls Tryz.prog 64 #[.pointer (some ⟨b, 0, none⟩)] w1 fun e w' => e = .returned (.bool false) ∧ w1 = w' := fun w1 h1 => disk_none h1.c0 (ne0 h1.ok.pos)
  have hno := hnone w h
  clear hnone
  obtain ⟨⟨pa, pc, hpv⟩, hpl⟩ := h.pendLen
  have hc1 : w.cell? ⟨b, 1, none⟩ = some (.slice pa D.pend.length pc) := by rw [h.c1, hpv]
  have hc2 : w.cell? ⟨b, 2, none⟩ = some (.bool true) := by rw [h.c2, hd]
  have H := Lib.hid h; have HPV := Lib.hid hpv; have HD := Lib.hid hd; have HKS := Lib.hid hks
  clear h hpv hd hks
  go_enter Tryz.func34, Tryz.ntmps34
  go_wp2_with (first
    | (go_at_call 64; refine hno.mono ?_; rintro e w' ⟨rfl, rfl⟩))
  go_loopw [21] (fun v wr => OnInv B w b kb pv dn D ks v wr) (fun v _ => D.pend.length - (intOf v).toNat)
  case atStart => exact ⟨0, Nat.zero_le _, rfl, by simpa [apply, kept] using H.out, .refl _ _ _⟩
  case round =>
    obtain ⟨j, hj, rfl, hdi, hup1⟩ := hrel
    have HDI := Lib.hid hdi; have HUP := Lib.hid hup1
    clear hup1
    by_cases hjl : j < D.pend.length
    · obtain ⟨g, cap, hpv, _, hcells⟩ := hdi.pendRow (by exact Nat.lt_of_le_of_lt (Nat.zero_le _) hjl)
      have hpa : pa = some ⟨g, 0, none⟩ := by have := HPV.out.symm.trans hpv; injection this
      subst hpa
      obtain ⟨x, hx⟩ : ∃ x, x = D.pend[j] := ⟨_, rfl⟩
      have hcx : ∀ t v, (wcI (x.1 : Int) x.2)[t]? = some v → wr.cell? ⟨g, j * 65 + t, none⟩ = some v := fun t v hv => hcells j hjl t v (by show (wcells D.pend[j])[t]? = some v; rw [← hx]; exact hv)
      have hxo := H.out.ok.ats x (by rw [hx]; exact List.getElem_mem _)
      have hx1 := wcI_len (x.1 : Int) x.2 hxo.2
      have hag : aggSize Tryz.prog 113 = some (wcI (x.1 : Int) x.2).length := by rw [hx1]; exact Tryz.agg_write
      have HSZ : Hid ((Tryz.prog.info? 113).map (·.size) = some (wcI (x.1 : Int) x.2).length) := by rw [hx1]; exact Tryz.size_write
      have HZL : Hid ((wcI (x.1 : Int) x.2).length = Tryz.zeroCells113.size) := by rw [hx1, zc_write]; rfl
      have HX := Lib.hid hx; have HXO := Lib.hid hxo; have HCX := Lib.hid hcx; have HAG := Lib.hid hag; have HX1 := Lib.hid hx1
      clear hx hxo hcells hcx hpv hag hx1 hdi
      have g2 : (j : Int) < (D.pend.length : Int) := by omega
      obtain ⟨w2, hw2⟩ : ∃ w2, w2 = wr.alloc (.cells (wcI (x.1 : Int) x.2).toArray 113) := ⟨_, rfl⟩
      have hu2 : Upd B diskT w w2 := by rw [hw2]; exact HUP.out.alloc _
      have hd2 : DiskIs B w2 b kb pv dn { D with kept := apply D.kept (kept (D.pend.take j) ks) } := HDI.out.keep (by rw [hw2]; exact Below.sees ((Below.refl _ wr).alloc (Nat.le_refl _) _))
      have HU2 := Lib.hid hu2; have HD2 := Lib.hid hd2; have HW2 := Lib.hid hw2
      clear hu2 hd2 hw2
      cases hkj : ks[j]? with
      | none =>
        have hge : ¬ ((j : Int) < (ks.length : Int)) := by
          have : ks.length ≤ j := by simpa using hkj
          omega
        have HKJ := Lib.hid hkj
        clear hkj
        go_wp2_with (first
          | (with_reducible refine wpList_load_mid rfl 113 (.tmp 24) rfl g (j * 65) rfl (wcI (x.1 : Int) x.2) HAG.out HCX.out ?_)
          | (with_reducible refine wpList_store_new rfl 113 (.tmp 6) (.tmp 25) rfl 113 _ rfl (wcI (x.1 : Int) x.2) rfl HSZ.out HZL.out (wcI_one _ _) ?_; rw [← HW2.out]))
        go_roundw
        case rel => exact ⟨j + 1, by omega, congrArg (Value.int .i64) (by omega), by rw [kept_take _ _ _ hjl, HKJ.out]; simpa using HD2.out, HU2.out⟩
        case measure => simp [intOf]; omega
      | some kv =>
        obtain ⟨hlt, hkv⟩ := List.getElem?_eq_some_iff.1 hkj
        obtain ⟨gk, ok, hka, hcell⟩ := HKS.out w2 HU2.out j hlt
        rw [hkv] at hcell
        subst hka
        have HKJ := Lib.hid hkj
        have hlt' : (j : Int) < (ks.length : Int) := by omega
        clear hkj hkv hlt
        cases kv with
        | false =>
          go_wp2_with (first
            | (with_reducible refine wpList_load_mid rfl 113 (.tmp 24) rfl g (j * 65) rfl (wcI (x.1 : Int) x.2) HAG.out HCX.out ?_)
            | (with_reducible refine wpList_store_new rfl 113 (.tmp 6) (.tmp 25) rfl 113 _ rfl (wcI (x.1 : Int) x.2) rfl HSZ.out HZL.out (wcI_one _ _) ?_; rw [← HW2.out]))
          go_roundw
          case rel => exact ⟨j + 1, by omega, congrArg (Value.int .i64) (by omega), by rw [kept_take _ _ _ hjl, HKJ.out]; simpa using HD2.out, HU2.out⟩
          case measure => simp [intOf]; omega
        | true =>
          go_wp2_with (first
            | (with_reducible refine wpList_load_mid rfl 113 (.tmp 24) rfl g (j * 65) rfl (wcI (x.1 : Int) x.2) HAG.out HCX.out ?_)
            | (with_reducible refine wpList_store_new rfl 113 (.tmp 6) (.tmp 25) rfl 113 _ rfl (wcI (x.1 : Int) x.2) rfl HSZ.out HZL.out (wcI_one _ _) ?_; rw [← HW2.out]))
          have hd2 : DiskIs B w2.drew b kb pv dn { D with kept := apply D.kept (kept (D.pend.take j) ks) } := HD2.out.keep (fun k o _ hk _ => hk)
          have hN : w2.drew.heap[wr.heap.size]? = some (.cells (wcI (x.1 : Int) x.2).toArray 113 (0, 0)) := by rw [HW2.out]; exact heap_alloc_new wr _
          have hS2 : HeldF b kb D.kept.length wr.heap.size (wcI (x.1 : Int) x.2) w2.drew := ⟨by rw [hd2.c0]; simp [apply_len], fun t v hv => by rw [Nat.zero_add]; exact cellAt hN t v (by simpa using hv)⟩
          have hst := hd2.stored x.1 x.2 (by show x.1 < (apply _ _).length; rw [apply_len]; exact HXO.out.1) HXO.out.2
          have hgo := Upd.setRow (T := diskT) HU2.out.drew (splice ((apply D.kept (kept (D.pend.take j) ks)).flatten.map byt).toArray.toList (x.1 * 64) (x.2.map byt)).toArray hd2.row hd2.hkb rfl
          have hS3 : HeldF b kb D.kept.length wr.heap.size (wcI (x.1 : Int) x.2) (w2.drew.setRow kb (splice ((apply D.kept (kept (D.pend.take j) ks)).flatten.map byt).toArray.toList (x.1 * 64) (x.2.map byt)).toArray) := by
            refine ⟨by rw [hst.c0]; simp [apply_len], fun t v hv => ?_⟩
            rw [Nat.zero_add]
            refine cellAt (t := 113) (fr := (0, 0)) (cs := (wcI (x.1 : Int) x.2).toArray) ?_ t v (by simpa using hv)
            rw [setRow_other _ _ _ _ (fun e => ?_)]; exact hN
            have h1 := hd2.row; rw [← e, hN] at h1; injection h1 with h1; injection h1 with _ ht; cases ht
          have hagb : aggSize Tryz.prog 111 = some (x.2.map byt).length := by rw [List.length_map, HXO.out.2]; exact Tryz.agg_block
          have hfit : x.1 * 64 + (x.2.map byt).length ≤ ((apply D.kept (kept (D.pend.take j) ks)).flatten.map byt).toArray.size := by
            have := flat_len _ hd2.ok.len
            have h3 := HXO.out.1
            have h4 := apply_len D.kept (kept (D.pend.take j) ks)
            simp only [List.size_toArray, List.length_map, this, HXO.out.2, h4]; omega
          obtain ⟨w3, hw3⟩ : ∃ w3, w3 = w2.drew.setRow kb (splice ((apply D.kept (kept (D.pend.take j) ks)).flatten.map byt).toArray.toList (x.1 * 64) (x.2.map byt)).toArray := ⟨_, rfl⟩
          rw [← hw3] at hS3 hgo
          have hst3 : DiskIs B w3 b kb pv dn { D with kept := (apply D.kept (kept (D.pend.take j) ks)).set x.1 x.2 } := by rw [hw3]; exact hst
          have HFI : OnInv B w b kb pv dn D ks (.int .i64 ((j : Int) + 1)) w3 := by
            refine ⟨j + 1, by omega, congrArg (Value.int .i64) (by omega), ?_, hgo⟩
            rw [kept_take _ _ _ hjl, HKJ.out, if_pos rfl, apply_snoc, ← HX.out]
            exact hst3
          have hxlt := HXO.out.1
          refine wp_region_T (HeldF b kb D.kept.length wr.heap.size (wcI (x.1 : Int) x.2)) 10 (by kernel_rfl) ?_
          change anyT _ _ _ _ _ 10 _ _ w2.drew
          refine anyT_take 0 36 (by kernel_rfl) (by kernel_rfl) (by decide) rfl rfl (by kernel_rfl) (by kernel_rfl) (fun _ _ _ _ h => h) hS2 (yi_move _ _ rfl rfl rfl) ?_
          simp only [Act.put, act_eval_tmp, act_eval_const, List.setIfInBounds_toArray, List.set_cons_succ, List.set_cons_zero, List.getD_cons_succ, List.getD_cons_zero]
          refine anyT_take 1 37 (by kernel_rfl) (by kernel_rfl) (by decide) rfl rfl (by kernel_rfl) (by kernel_rfl) (fun _ _ _ _ h => h) hS2 (yi_nilCheck _ _ rfl rfl rfl) ?_
          simp only [Act.put, act_eval_tmp, act_eval_const, List.setIfInBounds_toArray, List.set_cons_succ, List.set_cons_zero, List.getD_cons_succ, List.getD_cons_zero]
          refine anyT_take 2 38 (by kernel_rfl) (by kernel_rfl) (by decide) rfl rfl (by kernel_rfl) (by kernel_rfl) (fun _ _ _ _ h => h) hS2 (yi_field 88 0 _ _ _ 0 rfl rfl rfl (by kernel_rfl)) ?_
          simp only [Act.put, act_eval_tmp, act_eval_const, List.setIfInBounds_toArray, List.set_cons_succ, List.set_cons_zero, List.getD_cons_succ, List.getD_cons_zero]
          refine anyT_take 3 39 (by kernel_rfl) (by kernel_rfl) (by decide) rfl rfl (by kernel_rfl) (by kernel_rfl) (fun _ _ _ _ h => h) hS2 (yi_load 85 _ ⟨b, 0, none⟩ (.slice (some ⟨kb, 0, none⟩) D.kept.length D.kept.length) rfl rfl rfl (by kernel_rfl) (fun w hw => hw.1)) ?_
          simp only [Act.put, act_eval_tmp, act_eval_const, List.setIfInBounds_toArray, List.set_cons_succ, List.set_cons_zero, List.getD_cons_succ, List.getD_cons_zero]
          refine anyT_take 4 40 (by kernel_rfl) (by kernel_rfl) (by decide) rfl rfl (by kernel_rfl) (by kernel_rfl) (fun _ _ _ _ h => h) hS2 (yi_field 113 0 _ _ _ 0 rfl rfl rfl (by kernel_rfl)) ?_
          simp only [Act.put, act_eval_tmp, act_eval_const, List.setIfInBounds_toArray, List.set_cons_succ, List.set_cons_zero, List.getD_cons_succ, List.getD_cons_zero]
          refine anyT_take 5 41 (by kernel_rfl) (by kernel_rfl) (by decide) rfl rfl (by kernel_rfl) (by kernel_rfl) (fun _ _ _ _ h => h) hS2 (yi_load 3 _ ⟨wr.heap.size, 0, none⟩ (.int .i64 (x.1 : Int)) rfl rfl rfl (by kernel_rfl) (fun w hw => hw.2 0 _ rfl)) ?_
          simp only [Act.put, act_eval_tmp, act_eval_const, List.setIfInBounds_toArray, List.set_cons_succ, List.set_cons_zero, List.getD_cons_succ, List.getD_cons_zero]
          refine anyT_take 6 42 (by kernel_rfl) (by kernel_rfl) (by decide) rfl rfl (by kernel_rfl) (by kernel_rfl) (fun _ _ _ _ h => h) hS2 (yi_field 113 1 _ _ _ 1 rfl rfl rfl (by kernel_rfl)) ?_
          simp only [Act.put, act_eval_tmp, act_eval_const, List.setIfInBounds_toArray, List.set_cons_succ, List.set_cons_zero, List.getD_cons_succ, List.getD_cons_zero]
          refine anyT_take 7 43 (by kernel_rfl) (by kernel_rfl) (by decide) rfl rfl (by kernel_rfl) (by kernel_rfl) (fun _ _ _ _ h => h) hS2 (yi_load_mid 111 _ wr.heap.size 1 (x.2.map byt) rfl rfl rfl hagb (fun w hw t v hv => by rw [Nat.add_comm, ← Nat.zero_add (t + 1)]; exact hw.2 (t + 1) v (by simpa [wcI] using hv))) ?_
          simp only [Act.put, act_eval_tmp, act_eval_const, List.setIfInBounds_toArray, List.set_cons_succ, List.set_cons_zero, List.getD_cons_succ, List.getD_cons_zero]
          refine anyT_take 8 44 (by kernel_rfl) (by kernel_rfl) (by decide) rfl rfl (by kernel_rfl) (by kernel_rfl) (fun _ _ _ _ h => h) hS2 (yi_index 85 111 64 _ _ kb 0 D.kept.length D.kept.length .i64 (x.1 : Int) rfl rfl rfl rfl Tryz.underlying85 (by kernel_rfl) (by omega) (by omega)) ?_
          simp only [Act.put, act_eval_tmp, act_eval_const, List.setIfInBounds_toArray, List.set_cons_succ, List.set_cons_zero, List.getD_cons_succ, List.getD_cons_zero]
          refine anyT_one 9 none _ 0 (by kernel_rfl) rfl rfl rfl rfl rfl ?_
          refine wp_store_mid 111 _ _ rfl kb (x.1 * 64) (by simp [act_eval_tmp]) (x.2.map byt) rfl 111 _ (by rw [List.length_map, HXO.out.2]; kernel_rfl) hd2.row hfit (by intro v hv; simp only [List.mem_map] at hv; obtain ⟨c, _, rfl⟩ := hv; rfl) ?_
          rw [← hw3]
          refine ⟨fun _ => hS3, ?_⟩
          simp only [Act.put, act_eval_tmp, act_eval_const, List.setIfInBounds_toArray, List.set_cons_succ, List.set_cons_zero, List.getD_cons_succ, List.getD_cons_zero]
          refine anyT_done (by kernel_rfl) ?_
          clear hgo hst hst3 hS3 hS2 hd2 hN hagb hfit hw3 hxlt
          go_wp2
          go_roundw
          case rel => exact HFI
          case measure => simp [intOf]; omega
    · obtain rfl : j = D.pend.length := by omega
      rw [List.take_length] at hdi HDI
      have f1 := hdi.fr 1; have f2 := hdi.fr 2; have f3 := hdi.fr 3; have f4 := hdi.fr 4
      have d1 := hdi.c1; have d2 := hdi.c2; have d3 := hdi.c3; have d4 := hdi.c4
      clear hdi
      go_wp2
      go_ret
      have k1 := HDI.out.cleared
      have k2 := k1.field 2 (.bool false) { D with kept := apply D.kept (kept D.pend ks), pend := [], down := false } dn rfl rfl rfl (Disk.ok_of k1.ok rfl rfl k1.ok.left)
      have k3 := k2.field 3 (.bool false) { D with kept := apply D.kept (kept D.pend ks), pend := [], down := false, armed := false } dn rfl rfl rfl (Disk.ok_of k2.ok rfl rfl k2.ok.left)
      have k4 := k3.field 4 (.int .i64 0) ⟨apply D.kept (kept D.pend ks), [], false, false, 0⟩ dn rfl rfl rfl (Disk.ok_of k3.ok rfl rfl (by show 0 < _; omega))
      exact ⟨rfl, ⟨_, _, _, k4⟩, k3.updHead (k2.updHead (k1.updHead (HDI.out.updHead HUP.out 1 _) 2 _) 3 _) 4 _⟩
end Go.Proofs.YthbbammibdhohaaGreatDoor

namespace Go.Proofs.YthbbammibdhohaaGreatDoor
open Go.RowKit Aq Go.Rgn

def halfT : List Int := [0, 274646895, 549293790, 820201905, 1098587580, 1361435347, 1640403810, 1905808397, 2197175160, 2460548119, 2722870694, 2987750089, 3280807620, 3553878443, 3811616794, 4084100981]
/-- the table lies where the program lays it -/
def HalfAt (w : World) : Prop := ∀ t, t < 16 → w.cell? ⟨0, t, none⟩ = some (.int .u32 (halfT.getD t 0))

def crcA (x : Int) (b : UInt8) : Int := bits .xor .u32 x ((b.toNat : Int) % 4294967296)
def crcH (y : Int) : Int := bits .xor .u32 (y / 16) (halfT.getD (bits .and .u32 y 15).toNat 0)
def crcRun (x : Int) (l : Bs) : Int := l.foldl (fun x b => crcH (crcH (crcA x b))) x
/-- the sum of a text -/
def crc (l : Bs) : Int := bits .xor .u32 IntKind.u32.max (crcRun (bits .xor .u32 IntKind.u32.max 0) l)
theorem bits_range (op : BinOp) (x y : Int) : 0 ≤ bits op .u32 x y ∧ bits op .u32 x y < 4294967296 := by
  unfold bits; simp only [IntKind.wrap_u32]; omega
theorem and15 (x : Int) : (bits .and .u32 x 15).toNat < 16 := by
  have e : bits .and .u32 x 15 = (((BitVec.ofInt 32 x &&& BitVec.ofInt 32 15).toNat : Nat) : Int) % 4294967296 := by
    unfold bits; simp only [IntKind.wrap_u32]; rfl
  have h : (BitVec.ofInt 32 x &&& BitVec.ofInt 32 15).toNat ≤ 15 := by
    rw [BitVec.toNat_and]; exact Nat.and_le_right
  omega
theorem crc_range (l : Bs) : 0 ≤ crc l ∧ crc l < 4294967296 := bits_range _ _ _
theorem crcRun_snoc (x : Int) (l : Bs) (b : UInt8) : crcRun x (l ++ [b]) = crcH (crcH (crcA (crcRun x l) b)) := by simp [crcRun]

set_option maxHeartbeats 1000000 in
theorem crc_Update (w : World) (hH : HalfAt w) (s : Int) (a : Option Addr) (n c : Nat) (l : Bs) (hl : l.length = n) (hn : n ≤ 9223372036854775807)
    (hc : ∀ t b, l[t]? = some b → ∃ g off, a = some ⟨g, off, none⟩ ∧ w.cell? ⟨g, off + t, none⟩ = some (byt b)) :
    Calls Tryz.prog 120 #[.int .u32 s, .slice a n c] w fun e w' => e = .returned (.int .u32 (bits .xor .u32 IntKind.u32.max (crcRun (bits .xor .u32 IntKind.u32.max s) l))) ∧ w = w' := by
  have HC := Lib.hid hc; have HL := Lib.hid hl
  have hk : ∀ y, w.cell? ⟨0, (bits .and .u32 y 15).toNat, none⟩ = some (.int .u32 (halfT.getD (bits .and .u32 y 15).toNat 0)) := fun y => hH _ (and15 y)
  have hb0 : ∀ y, 0 ≤ bits .and .u32 y 15 := fun y => (bits_range _ _ _).1
  have hb1 : ∀ y, bits .and .u32 y 15 < 16 := fun y => by have := and15 y; have := hb0 y; omega
  clear hc hl hH
  go_enter Tryz.func120, Tryz.ntmps120
  go_wp2
  go_loop [5, 12] (fun r v => ∃ j : Nat, j ≤ n ∧ v = .int .i64 (j : Int) ∧ r = .int .u32 (crcRun (bits .xor .u32 IntKind.u32.max s) (l.take j))) (fun _ v => n - (intOf v).toNat)
  case atStart => exact ⟨0, by omega, rfl, by simp [crcRun]⟩
  case round =>
    obtain ⟨j, hj, rfl, rfl⟩ := hrel
    obtain ⟨x, hx⟩ : ∃ x, x = crcRun (bits .xor .u32 IntKind.u32.max s) (l.take j) := ⟨_, rfl⟩
    rw [← hx]
    have HX := Lib.hid hx; clear hx
    by_cases hjn : j < n
    · obtain ⟨b, hb⟩ : ∃ b, l[j]? = some b := ⟨l[j]'(by have := HL.out; omega), by simp⟩
      obtain ⟨g, off, ha, hcell⟩ := HC.out j b hb
      subst ha
      unfold byt at hcell
      have hst : crcRun (bits .xor .u32 IntKind.u32.max s) (l.take (j + 1)) = crcH (crcH (crcA x b)) := by
        obtain ⟨hlt, hbe⟩ := List.getElem?_eq_some_iff.1 hb
        rw [List.take_succ_eq_append_getElem hlt, crcRun_snoc, HX.out, hbe]
      have HST := Lib.hid hst
      clear hb hst
      have hjn' : (j : Int) < (n : Int) := by omega
      go_wp2
      go_round
      case rel => exact ⟨j + 1, by omega, by go_num, by rw [HST.out]; rfl⟩
      case measure => simp [intOf]; omega
    · obtain rfl : j = n := by omega
      rw [List.take_of_length_le (by have := HL.out; omega)] at HX
      go_wp2
      go_ret
      exact ⟨by rw [← HX.out]; rfl, rfl⟩

theorem crc_Sum (w : World) (hH : HalfAt w) (a : Option Addr) (n c : Nat) (l : Bs) (hl : l.length = n) (hn : n ≤ 9223372036854775807)
    (hc : ∀ t b, l[t]? = some b → ∃ g off, a = some ⟨g, off, none⟩ ∧ w.cell? ⟨g, off + t, none⟩ = some (byt b)) :
    Calls Tryz.prog 86 #[.slice a n c] w fun e w' => e = .returned (.int .u32 (crc l)) ∧ w = w' := by
  have hu := crc_Update w hH 0 a n c l hl hn hc
  clear hc hH
  go_enter Tryz.func86, Tryz.ntmps86
  go_wp2_with (first | (go_at_call 120; refine hu.mono ?_; rintro e w' ⟨rfl, rfl⟩))
  go_ret
  exact ⟨rfl, rfl⟩
end Go.Proofs.YthbbammibdhohaaGreatDoor

namespace Go.Proofs.YthbbammibdhohaaGreatDoor
open Go.RowKit Aq Go.Rgn

/-- a number in k bytes, the lowest first -/
def num (n : Nat) : Nat → Bs
  | 0 => []
  | k + 1 => UInt8.ofNat n :: num (n / 256) k
def val : Bs → Nat
  | [] => 0
  | b :: l => b.toNat + 256 * val l
theorem num_len (k : Nat) : ∀ n, (num n k).length = k := by
  induction k with
  | zero => intro n; rfl
  | succ k ih => intro n; simp [num, ih]
theorem val_num (k : Nat) : ∀ n, n < 256 ^ k → val (num n k) = n := by
  induction k with
  | zero => intro n h; simp at h; simp [num, val, h]
  | succ k ih =>
    intro n h
    rw [Nat.pow_succ] at h
    have : n / 256 < 256 ^ k := by rw [Nat.div_lt_iff_lt_mul (by decide)]; exact h
    simp only [num, val, ih _ this, UInt8.toNat_ofNat']
    omega
theorem val_lt (l : Bs) : val l < 256 ^ l.length := by
  induction l with
  | nil => simp [val]
  | cons b l ih =>
    have := b.toNat_lt
    simp only [val, List.length_cons, Nat.pow_succ]
    omega
theorem byt_ofNat (n : Nat) : byt (UInt8.ofNat n) = .int .u8 ((n % 256 : Nat) : Int) := by simp [byt]

/-- block g is o now; nothing else has turned -/
structure SetB (w w' : World) (g : Nat) (o : Obj) : Prop where
  os : w'.os = w.os
  tape : w'.tape = w.tape
  output : w'.output = w.output
  size : w'.heap.size = w.heap.size
  here : w'.heap[g]? = some o
  other : ∀ k, k ≠ g → w'.heap[k]? = w.heap[k]?
theorem SetB.below {w w' : World} {g B : Nat} {o : Obj} (h : SetB w w' g o) (hB : B ≤ g) : Below B w w' :=
  ⟨h.os, h.tape, h.output, by rw [h.size]; exact Nat.le_refl _, fun k hk => h.other k (by omega)⟩
theorem SetB.setCell {w w' : World} {g : Nat} {cs : Array Value} {t : Nat} (h : SetB w w' g (.cells cs t (0, 0))) (i : Nat) (v : Value) : SetB w (w'.setCell ⟨g, i, none⟩ v) g (.cells (cs.setIfInBounds i v) t (0, 0)) :=
  ⟨h.os, h.tape, h.output, by simpa using h.size, heap_setCell_same w' g i _ _ v h.here, fun k hk => by rw [heap_setCell_other _ _ _ _ hk]; exact h.other k hk⟩
theorem SetB.same {w : World} {g : Nat} {o : Obj} (h : w.heap[g]? = some o) : SetB w w g o := ⟨rfl, rfl, rfl, rfl, h, fun _ _ => rfl⟩
theorem SetB.trans {w w1 w2 : World} {g : Nat} {o o' : Obj} (h : SetB w w1 g o) (k : SetB w1 w2 g o') : SetB w w2 g o' :=
  ⟨k.os.trans h.os, k.tape.trans h.tape, k.output.trans h.output, k.size.trans h.size, k.here, fun i hi => (k.other i hi).trans (h.other i hi)⟩
theorem SetB.drew {w w' : World} {g : Nat} {o : Obj} (h : SetB w w' g o) : SetB w w'.drew g o := ⟨h.os, h.tape, h.output, h.size, h.here, h.other⟩
theorem map_set_byt (l : Bs) (i : Nat) (b : UInt8) : ((l.map byt).toArray.setIfInBounds i (byt b)) = ((l.set i b).map byt).toArray := by simp [List.map_set]
theorem cellByt {w : World} {g : Nat} {l : Bs} {t : Nat} (h : w.heap[g]? = some (.cells (l.map byt).toArray t (0, 0))) (i : Nat) (b : UInt8) (hi : l[i]? = some b) : w.cell? ⟨g, i, none⟩ = some (byt b) := cellAt h i _ (by simp [hi])

theorem splice_map (l : Bs) (off : Nat) (c : Bs) : splice (l.map byt) off (c.map byt) = (splice l off c).map byt := by simp [splice]
/-- copy out of a text into a row of bytes; the world behind it is a variable -/
theorem wpList_copy_str_v {P : Program} {ops : Array Oper} {rest : List Oper} {o : Oper} {a : Act} {w : World} {Q : Exit → Act → World → Prop} (hgd : o.guard = none) (d s : Operand) (dT sT : TypeId)
    (ho : o.op = .call { callee := .builtin .copy, args := #[d, s], argTypes := #[dT, sT] }) (elem : TypeId) (hu : P.underlying dT = some (.slice elem)) (hsz : (P.info? elem).map (·.size) = some 1)
    (g off dLen dCap : Nat) (hd : a.eval d = .slice (some ⟨g, off, none⟩) dLen dCap) (b : ByteArray) (hs : a.eval s = .string b)
    (l : Bs) (t : TypeId) (n : Nat) (hn : Nat.min b.size dLen = n) (hg : w.heap[g]? = some (.cells (l.map byt).toArray t (0, 0))) (hfit : off + n ≤ l.length)
    (h : ∀ w', SetB w w' g (.cells ((splice l off (b.data.toList.take n)).map byt).toArray t (0, 0)) → wpList P ops Q rest (a.put o.dst (goInt n)) w') : wpList P ops Q (o :: rest) a w := by
  subst hn
  refine wpList_copy_str hgd d s dT sT ho elem hu hsz g off dLen dCap hd b hs (l.map byt).toArray t hg (by simpa using hfit) (h _ ?_)
  have e : splice (l.map byt).toArray.toList off (firstB b (Nat.min b.size dLen)) = (splice l off (b.data.toList.take (Nat.min b.size dLen))).map byt := by
    rw [← splice_map]; rfl
  rw [e]
  exact ⟨rfl, rfl, rfl, by simp, setRow_heap w g _ _ t _ hg, fun k hk => setRow_other w g k _ hk⟩

set_option maxHeartbeats 1000000 in
theorem page_is (w : World) (id : Int) : Calls Tryz.prog 88 #[.int .i64 id] w fun e w' => e = .returned (.bool (decide (0 ≤ id ∧ id < 2147483648))) ∧ w = w' := by
  by_cases h0 : 0 ≤ id
  · go_enter Tryz.func88, Tryz.ntmps88
    go_wp2
    go_ret
    exact ⟨by simp [h0], rfl⟩
  · have hd : decide (0 ≤ id ∧ id < 2147483648) = false := by rw [decide_eq_false_iff_not]; omega
    rw [hd]; clear hd
    go_enter Tryz.func88, Tryz.ntmps88
    go_wp2
    go_ret
    exact ⟨rfl, rfl⟩

theorem splice4 (l : Bs) (off : Nat) (a b c d : UInt8) (h : off + 4 ≤ l.length) : (((l.set off a).set (off + 1) b).set (off + 2) c).set (off + 3) d = splice l off [a, b, c, d] := by
  apply List.ext_getElem?
  intro i
  simp only [splice, List.getElem?_set, List.length_set]
  rcases Nat.lt_or_ge i off with h1 | h1
  · rw [List.getElem?_append_left (by simp; omega), List.getElem?_take, if_pos h1]
    rw [if_neg (by omega), if_neg (by omega), if_neg (by omega), if_neg (by omega)]
  · rw [List.getElem?_append_right (by simp; omega)]
    have hl : (l.take off).length = off := by simp; omega
    rw [hl]
    rcases Nat.lt_or_ge i (off + 4) with h2 | h2
    · have : i = off ∨ i = off + 1 ∨ i = off + 2 ∨ i = off + 3 := by omega
      rcases this with rfl | rfl | rfl | rfl <;> simp <;> omega
    · rw [if_neg (by omega), if_neg (by omega), if_neg (by omega), if_neg (by omega), List.getElem?_append_right (by simp; omega)]
      simp only [List.length_cons, List.length_nil, List.getElem?_drop]
      congr 1; omega

def PutPost (w : World) (g off n t : Nat) (l : Bs) (e : Ending) (w' : World) : Prop := e = .returned (.tuple #[]) ∧ SetB w w' g (.cells ((splice l off (num n 4)).map byt).toArray t (0, 0))
set_option maxHeartbeats 2000000 in
theorem page_put (w : World) (g off n len cap t : Nat) (l : Bs) (hb : w.heap[g]? = some (.cells (l.map byt).toArray t (0, 0))) (hl : off + 4 ≤ l.length) (hlen : 4 ≤ len) (hn : n < 4294967296) :
    Calls Tryz.prog 121 #[.slice (some ⟨g, off, none⟩) len cap, .int .u32 (n : Int)] w (PutPost w g off n t l) := by
  have c0 := cellByt hb off _ (List.getElem?_eq_getElem (by omega))
  have c1 := cellByt hb (off + 1) _ (List.getElem?_eq_getElem (by omega))
  have c2 := cellByt hb (off + 2) _ (List.getElem?_eq_getElem (by omega))
  have c3 := cellByt hb (off + 3) _ (List.getElem?_eq_getElem (by omega))
  have f0 := freeAt hb off; have f1 := freeAt hb (off + 1); have f2 := freeAt hb (off + 2); have f3 := freeAt hb (off + 3)
  have HB := Lib.hid hb
  clear hb
  have q0 : (0 : Int) < (len : Int) := by omega
  have q1 : (1 : Int) < (len : Int) := by omega
  have q2 : (2 : Int) < (len : Int) := by omega
  have q3 : (3 : Int) < (len : Int) := by omega
  go_enter Tryz.func121, Tryz.ntmps121
  go_wp2
  go_end0
  have e0 : (Value.int .u8 ((n : Int) % 256)) = byt (UInt8.ofNat n) := by rw [byt_ofNat]; congr 1
  have e1 : (Value.int .u8 ((n : Int) / 256 % 256)) = byt (UInt8.ofNat (n / 256)) := by rw [byt_ofNat]; congr 1
  have e2 : (Value.int .u8 ((n : Int) / 65536 % 256)) = byt (UInt8.ofNat (n / 256 / 256)) := by rw [byt_ofNat]; congr 1; omega
  have e3 : (Value.int .u8 ((n : Int) / 16777216)) = byt (UInt8.ofNat (n / 256 / 256 / 256)) := by rw [byt_ofNat]; congr 1; omega
  rw [e0, e1, e2, e3]
  have k := ((((SetB.same HB.out).setCell off (byt (UInt8.ofNat n))).setCell (off + 1) (byt (UInt8.ofNat (n / 256)))).setCell (off + 2) (byt (UInt8.ofNat (n / 256 / 256)))).setCell (off + 3) (byt (UInt8.ofNat (n / 256 / 256 / 256)))
  rw [map_set_byt, map_set_byt, map_set_byt, map_set_byt, splice4 l off _ _ _ _ hl] at k
  exact ⟨rfl, k⟩

theorem Tryz.zc_page : Tryz.zeroCells171 = (List.replicate 512 (Value.int .u8 0)).toArray := by kernel_rfl
/-- a page as it is laid (its number, kind and body fit) -/
def pageBody (id kind : Nat) (body : Bs) : Bs := num id 4 ++ [UInt8.ofNat kind, 0, UInt8.ofNat body.length, UInt8.ofNat (body.length / 256)] ++ body ++ zeros (500 - body.length)
def sealPage (id kind : Nat) (body : Bs) : Bs := pageBody id kind body ++ num (crc (pageBody id kind body)).toNat 4
theorem pageBody_len (id kind : Nat) (body : Bs) (h : body.length ≤ 500) : (pageBody id kind body).length = 508 := by simp [pageBody, num_len, zeros]; omega
theorem sealPage_len (id kind : Nat) (body : Bs) (h : body.length ≤ 500) : (sealPage id kind body).length = 512 := by simp [sealPage, pageBody_len _ _ _ h, num_len]
theorem zeros_add (a b : Nat) : zeros (a + b) = zeros a ++ zeros b := by simp only [zeros, List.replicate_append_replicate]
theorem zeros_len (a : Nat) : (zeros a).length = a := by simp only [zeros, List.length_replicate]
theorem splice_mid {α : Type} (p q r cs : List α) (h : q.length = cs.length) : splice (p ++ (q ++ r)) p.length cs = p ++ (cs ++ r) := by
  have e : (p ++ (q ++ r)).drop (p.length + cs.length) = r := by
    rw [← List.append_assoc]
    exact List.drop_left' (by rw [List.length_append, h])
  simp only [splice, List.take_left, e]
theorem set_mid {α : Type} (p r : List α) (x y : α) : (p ++ (x :: r)).set p.length y = p ++ (y :: r) := by
  rw [List.set_append_right _ _ (Nat.le_refl _), Nat.sub_self]; rfl
/-- the page's bytes as they come to be -/
theorem page_lay (id kind : Nat) (body : Bs) (h : body.length ≤ 500) (c : Bs) (hc : c.length = 4) :
    splice (splice ((((splice (zeros 512) 0 (num id 4)).set 4 (UInt8.ofNat kind)).set 6 (UInt8.ofNat body.length)).set 7 (UInt8.ofNat (body.length / 256))) 8 body) 508 c = pageBody id kind body ++ c := by
  have e1 : splice (zeros 512) 0 (num id 4) = num id 4 ++ (0 :: 0 :: 0 :: 0 :: zeros 504) := by
    have := splice_mid ([] : Bs) (zeros 4) (zeros 508) (num id 4) (by rw [zeros_len, num_len])
    rw [List.nil_append, ← zeros_add] at this
    exact this
  rw [e1]
  have hl := num_len 4 id
  have s4 := set_mid (num id 4) (0 :: 0 :: 0 :: zeros 504) 0 (UInt8.ofNat kind)
  rw [hl] at s4
  have s6 := set_mid (num id 4 ++ [UInt8.ofNat kind, 0]) (0 :: zeros 504) 0 (UInt8.ofNat body.length)
  have s7 := set_mid (num id 4 ++ [UInt8.ofNat kind, 0, UInt8.ofNat body.length]) (zeros 504) 0 (UInt8.ofNat (body.length / 256))
  simp only [List.length_append, hl, List.length_cons, List.length_nil, List.append_assoc, List.cons_append, List.nil_append] at s6 s7
  rw [s4, s6, s7]
  have s8 := splice_mid (num id 4 ++ [UInt8.ofNat kind, 0, UInt8.ofNat body.length, UInt8.ofNat (body.length / 256)]) (zeros body.length) (zeros (504 - body.length)) body (zeros_len _)
  rw [← zeros_add, show body.length + (504 - body.length) = 504 from by omega] at s8
  simp only [List.length_append, hl, List.length_cons, List.length_nil, List.append_assoc, List.cons_append, List.nil_append] at s8
  rw [s8]
  have s9 := splice_mid (pageBody id kind body) (zeros 4) [] c (by rw [zeros_len, hc])
  rw [pageBody_len _ _ _ h, List.append_nil, List.append_nil] at s9
  rw [← s9]
  congr 1
  have : zeros (504 - body.length) = zeros (500 - body.length) ++ zeros 4 := by rw [← zeros_add]; congr 1; omega
  rw [this]
  simp only [pageBody, List.append_assoc, List.cons_append, List.nil_append]

def SealPost (w : World) (id kind : Nat) (body : Bs) (e : Ending) (w' : World) : Prop := e = .returned (.tuple #[tx (sealPage id kind body), .int .i64 0]) ∧ Below w.heap.size w w'
set_option maxHeartbeats 2000000 in
set_option maxRecDepth 100000 in
theorem page_Seal (w : World) (hH : HalfAt w) (hB : 0 < w.heap.size) (id kind : Nat) (s : ByteArray) (hid : id < 2147483648) (hk0 : 1 ≤ kind) (hk : kind ≤ 255) (hs : s.size ≤ 500) :
    Calls Tryz.prog 89 #[.int .i64 (id : Int), .int .i64 (kind : Int), .string s] w (SealPost w id kind s.data.toList) := by
  have his := fun w => page_is w (id : Int)
  have hd : decide (0 ≤ (id : Int) ∧ (id : Int) < 2147483648) = true := by rw [decide_eq_true_eq]; omega
  simp only [hd] at his
  have k1 : ¬ ((kind : Int) < 1) := by omega
  have k2 : ¬ (255 < (kind : Int)) := by omega
  have k3 : ¬ (500 < (s.size : Int)) := by omega
  clear hd
  go_enter Tryz.func89, Tryz.ntmps89
  have hz : (w.alloc (.cells Tryz.zeroCells171 171)).heap[w.heap.size]? = some (.cells ((zeros 512).map byt).toArray 171 (0, 0)) := by
    rw [heap_alloc_new, Tryz.zc_page]; simp only [zeros, List.map_replicate]; rfl
  have HZ := Lib.hid hz
  clear hz
  have hke : Value.int .u8 (kind : Int) = byt (UInt8.ofNat kind) := by rw [byt_ofNat]; congr 1; omega
  have hse : Value.int .u8 ((s.size : Int) % 256) = byt (UInt8.ofNat s.size) := by rw [byt_ofNat]; congr 1
  have hsf : Value.int .u8 ((s.size : Int) / 256) = byt (UInt8.ofNat (s.size / 256)) := by rw [byt_ofNat]; congr 1; omega
  have HKE := Lib.hid hke; have HSE := Lib.hid hse; have HSF := Lib.hid hsf
  clear hke hse hsf
  have hsd : s.data.toList.length = s.size := rfl
  have htk : s.data.toList.take s.size = s.data.toList := List.take_of_length_le (by omega)
  obtain ⟨l3, hl3⟩ : ∃ l3, l3 = (((splice (zeros 512) 0 (num id 4)).set 4 (UInt8.ofNat kind)).set 6 (UInt8.ofNat s.size)).set 7 (UInt8.ofNat (s.size / 256)) := ⟨_, rfl⟩
  have hl3l : l3.length = 512 := by rw [hl3]; simp only [List.length_set]; rw [length_splice _ _ _ (by rw [zeros_len, num_len]; omega), zeros_len]
  have H3 := Lib.hid hl3; have H3L := Lib.hid hl3l; have HTK := Lib.hid htk; have HSD := Lib.hid hsd
  clear hl3 hl3l htk hsd
  go_wp2_with (first
    | (go_at_call 88; refine (his _).mono ?_; rintro e w' ⟨rfl, rfl⟩)
    | (go_at_call 121; refine (page_put _ w.heap.size 0 id 512 512 171 (zeros 512) HZ.out (by rw [zeros_len]; omega) (by omega) (by omega)).mono ?_; rintro e w2 ⟨rfl, hs2⟩; have c4 := cellByt hs2.here 4 0 (by kernel_rfl); have c6 := cellByt hs2.here 6 0 (by kernel_rfl); have c7 := cellByt hs2.here 7 0 (by kernel_rfl); have f4 := freeAt hs2.here 4; have f6 := freeAt hs2.here 6; have f7 := freeAt hs2.here 7; have hs3 := ((hs2.setCell 4 (.int .u8 (kind : Int))).setCell 6 (.int .u8 ((s.size : Int) % 256))).setCell 7 (.int .u8 ((s.size : Int) / 256)); rw [show (Value.int .u8 (kind : Int)) = _ from HKE.out, show (Value.int .u8 ((s.size : Int) % 256)) = _ from HSE.out, show (Value.int .u8 ((s.size : Int) / 256)) = _ from HSF.out, map_set_byt, map_set_byt, map_set_byt, ← H3.out, ← HKE.out, ← HSE.out, ← HSF.out] at hs3; have S3 := Lib.hid hs3; clear hs2 hs3)
    | (with_reducible refine wpList_copy_str_v rfl (.tmp 41) (.tmp 42) 122 9 rfl 5 Tryz.underlying122 Tryz.size_u8 w.heap.size 8 504 504 rfl s rfl l3 171 s.size (Nat.min_eq_left (by omega)) S3.out.here (by rw [H3L.out]; omega) ?_; intro w4 hs4; have S4 := Lib.hid (S3.out.trans hs4); clear hs4))
  obtain ⟨l4, hl4⟩ : ∃ l4, l4 = splice l3 8 s.data.toList := ⟨_, rfl⟩
  have hs4 := S4.out
  rw [HTK.out, ← hl4] at hs4
  have hl4l : l4.length = 512 := by rw [hl4, length_splice _ _ _ (by rw [H3L.out, HSD.out]; omega), H3L.out]
  have htake : l4.take 508 = pageBody id kind s.data.toList := by
    have h1 := page_lay id kind s.data.toList (by rw [HSD.out]; exact hs) (zeros 4) (zeros_len 4)
    rw [HSD.out, ← H3.out, ← hl4] at h1
    have h2 := congrArg (List.take 508) h1
    rw [List.take_left' (pageBody_len _ _ _ (by rw [HSD.out]; exact hs)), splice, List.take_left' (by rw [List.length_take]; omega)] at h2
    exact h2
  have hfin : splice l4 508 (num (crc (pageBody id kind s.data.toList)).toNat 4) = sealPage id kind s.data.toList := by
    have h1 := page_lay id kind s.data.toList (by rw [HSD.out]; exact hs) (num (crc (pageBody id kind s.data.toList)).toNat 4) (num_len _ _)
    rw [HSD.out, ← H3.out, ← hl4] at h1
    exact h1
  have hHw : HalfAt w4.drew := fun t ht => by
    have h1 := hH t ht
    have hk : w4.drew.heap[0]? = w.heap[0]? := by
      show w4.heap[_]? = _
      rw [hs4.other _ (by omega), World.heap_alloc_old' _ _ _ hB]
    exact (World.cell?_of_block (w := w) (w' := w4.drew) (a := ⟨0, t, none⟩) hk).trans h1
  have hsum := crc_Sum w4.drew hHw (some ⟨w.heap.size, 0, none⟩) 508 512 (l4.take 508) (by rw [List.length_take]; omega) (by omega) (fun t b hb => ⟨_, _, rfl, by
    rw [List.getElem?_take] at hb
    split at hb
    · rw [Nat.zero_add]; exact cellByt (w := w4.drew) hs4.here t b hb
    · cases hb⟩)
  rw [htake] at hsum
  have hcr := crc_range (pageBody id kind s.data.toList)
  have hput := page_put w4.drew w.heap.size 508 (crc (pageBody id kind s.data.toList)).toNat 4 4 171 l4 hs4.here (by omega) (by omega) (by omega)
  rw [show (((crc (pageBody id kind s.data.toList)).toNat : Nat) : Int) = crc (pageBody id kind s.data.toList) from Int.toNat_of_nonneg hcr.1] at hput
  have HF := Lib.hid hfin; have HS4 := Lib.hid hs4
  generalize crc (pageBody id kind s.data.toList) = x at *
  clear hfin htake hl4 hHw hs4 hH hcr
  refine wp_region_still_tail 3 (by kernel_rfl) (by kernel_rfl) ?_
  simp only [List.take_succ_cons, List.take_zero, List.drop_succ_cons, List.drop_zero]
  change wpStill _ _ w4.drew _ _ _
  still_step
  still_step
  still_call (hsum.mono (fun e w' h => ⟨h.1, h.2.symm⟩))
  refine wpStill_nil ?_
  change wpList _ _ _ _ _ w4.drew
  have HTX := HF.out
  go_wp2_with (first
    | (go_at_call 121; refine hput.mono ?_; rintro e w5 ⟨rfl, hs5⟩; rw [HF.out] at hs5; have S5 := Lib.hid hs5; clear hs5)
    | (with_reducible refine wpList_bytes_text rfl 122 9 (.tmp 48) rfl 5 Tryz.underlying122 Tryz.underlying5 Tryz.underlying9 w.heap.size 0 512 512 rfl (sealPage id kind s.data.toList) (sealPage_len _ _ _ (by rw [HSD.out]; exact hs)) (fun t b hb => by rw [Nat.zero_add]; exact cellByt S5.out.here t b hb) ?_))
  go_ret2
  exact ⟨rfl, ((((Below.refl _ w).alloc (Nat.le_refl _) _).trans (HS4.out.below (Nat.le_refl _))).drew).trans (S5.out.below (Nat.le_refl _))⟩
end Go.Proofs.YthbbammibdhohaaGreatDoor

namespace Go.Proofs.YthbbammibdhohaaGreatDoor
open Go.RowKit Aq Go.Rgn

theorem or_add (k : IntKind) (j : Nat) (hj : j ≤ k.bits) (hk : ∀ n : Int, 0 ≤ n → n < 2 ^ j → k.wrap n = n) (i : Nat) (hij : i ≤ j) (a b : Nat) (ha : a < 2 ^ i) (hb : b % 2 ^ i = 0) (hbj : b < 2 ^ j) : bits .or k (a : Int) (b : Int) = ((a + b : Nat) : Int) := by
  rw [(bits_nat k j hj hk a b (Nat.lt_of_lt_of_le ha (Nat.pow_le_pow_right (by decide) hij)) hbj).2]
  congr 1
  rw [Nat.or_comm]
  have hq : b = 2 ^ i * (b / 2 ^ i) := by have := Nat.div_add_mod b (2 ^ i); omega
  rw [hq, ← Nat.two_pow_add_eq_or_of_lt ha]
  omega
theorem wraps_u32 (n : Int) (h₀ : 0 ≤ n) (h₁ : n < 2 ^ 32) : IntKind.u32.wrap n = n := by rw [IntKind.wrap_u32]; omega
theorem wraps_i64 (n : Int) (h₀ : 0 ≤ n) (h₁ : n < 2 ^ 62) : IntKind.i64.wrap n = n := by rw [IntKind.wrap_i64]; omega
theorem or4 (k : IntKind) (j : Nat) (hj : j ≤ k.bits) (hk : ∀ n : Int, 0 ≤ n → n < 2 ^ j → k.wrap n = n) (h32 : 32 ≤ j) (a b c d : Nat) (ha : a < 256) (hb : b < 256) (hc : c < 256) (hd : d < 256) :
    bits .or k (bits .or k (bits .or k (a : Int) ((b : Int) * 256)) ((c : Int) * 65536)) ((d : Int) * 16777216) = ((a + 256 * (b + 256 * (c + 256 * d)) : Nat) : Int) := by
  have hp : 2 ^ 32 ≤ 2 ^ j := Nat.pow_le_pow_right (by decide) h32
  have e1 : ((b : Int) * 256) = ((b * 256 : Nat) : Int) := by omega
  have e2 : ((c : Int) * 65536) = ((c * 65536 : Nat) : Int) := by omega
  have e3 : ((d : Int) * 16777216) = ((d * 16777216 : Nat) : Int) := by omega
  rw [e1, or_add k j hj hk 8 (by omega) a (b * 256) (by omega) (by omega) (by omega), e2, or_add k j hj hk 16 (by omega) _ (c * 65536) (by omega) (by omega) (by omega), e3, or_add k j hj hk 24 (by omega) _ (d * 16777216) (by omega) (by omega) (by omega)]
  congr 1; omega

theorem take4 (l : Bs) (h : 4 ≤ l.length) : l.take 4 = [l[0], l[1], l[2], l[3]] := by
  match l, h with
  | a :: b :: c :: d :: _, _ => rfl
theorem val4 (s : ByteArray) (h : 4 ≤ s.size) : val (s.data.toList.take 4) = s[0].toNat + 256 * (s[1].toNat + 256 * (s[2].toNat + 256 * s[3].toNat)) := by
  rw [take4 s.data.toList (by exact h)]
  simp only [val, Nat.mul_zero, Nat.add_zero]
  rfl
theorem wrap64_id (x : Int) (h0 : 0 ≤ x) (h1 : x < 9223372036854775808) : wrap64 x = x := by unfold wrap64; omega

set_option maxHeartbeats 2000000 in
theorem pagedb_value (w : World) (s : ByteArray) (h : 4 ≤ s.size) :
    Calls Tryz.prog 60 #[.string s] w fun e w' => e = .returned (.int .i64 ((val (s.data.toList.take 4) : Nat) : Int)) ∧ ∃ n, w' = w.drewN n := by
  have q0 : (0 : Int) < (s.size : Int) := by omega
  have q1 : (1 : Int) < (s.size : Int) := by omega
  have q2 : (2 : Int) < (s.size : Int) := by omega
  have q3 : (3 : Int) < (s.size : Int) := by omega
  have p0 : 0 < s.size := by omega
  have p1 : 1 < s.size := by omega
  have p2 : 2 < s.size := by omega
  have p3 : 3 < s.size := by omega
  go_enter Tryz.func60, Tryz.ntmps60
  go_wp2
  go_quiet (fail)
  go_wp2
  go_ret
  refine ⟨congrArg (fun x => Ending.returned (.int .i64 x)) ?_, _, rfl⟩
  have b0 := s[0].toNat_lt; have b1 := s[1].toNat_lt; have b2 := s[2].toNat_lt; have b3 := s[3].toNat_lt
  rw [val4 s h, ← or4 .i64 62 (by decide) wraps_i64 (by decide) _ _ _ _ b0 b1 b2 b3]
  rw [wrap64_id (s[0].toNat : Int) (by omega) (by omega), wrap64_id (s[1].toNat : Int) (by omega) (by omega), wrap64_id (s[2].toNat : Int) (by omega) (by omega), wrap64_id (s[3].toNat : Int) (by omega) (by omega)]
  rw [wrap64_id _ (by omega) (by omega), wrap64_id _ (by omega) (by omega), wrap64_id _ (by omega) (by omega)]

set_option maxHeartbeats 2000000 in
theorem page_get (w : World) (s : ByteArray) (h : 4 ≤ s.size) :
    Calls Tryz.prog 87 #[.string s] w fun e w' => e = .returned (.int .u32 ((val (s.data.toList.take 4) : Nat) : Int)) ∧ ∃ n, w' = w.drewN n := by
  have q0 : (0 : Int) < (s.size : Int) := by omega
  have q1 : (1 : Int) < (s.size : Int) := by omega
  have q2 : (2 : Int) < (s.size : Int) := by omega
  have q3 : (3 : Int) < (s.size : Int) := by omega
  have p0 : 0 < s.size := by omega
  have p1 : 1 < s.size := by omega
  have p2 : 2 < s.size := by omega
  have p3 : 3 < s.size := by omega
  go_enter Tryz.func87, Tryz.ntmps87
  go_wp2
  go_quiet (fail)
  go_wp2
  go_ret
  refine ⟨congrArg (fun x => Ending.returned (.int .u32 x)) ?_, _, rfl⟩
  have b0 := s[0].toNat_lt; have b1 := s[1].toNat_lt; have b2 := s[2].toNat_lt; have b3 := s[3].toNat_lt
  rw [val4 s h, ← or4 .u32 32 (by decide) wraps_u32 (by decide) _ _ _ _ b0 b1 b2 b3]
  refine congr (congrArg (bits .or .u32) (congr (congrArg (bits .or .u32) (congr (congrArg (bits .or .u32) ?_) ?_)) ?_)) ?_ <;> omega
def NumPost (w : World) (l : Bs) (e : Ending) (w' : World) : Prop := e = .returned (tx l) ∧ Below w.heap.size w w'
set_option maxHeartbeats 2000000 in
set_option maxRecDepth 100000 in
theorem pagedb_number (w : World) (n : Nat) (h : n < 4294967296) :
    Calls Tryz.prog 63 #[.int .i64 (n : Int)] w (NumPost w (num n 4)) := by
  go_enter Tryz.func63, Tryz.ntmps63
  have hnum : num n 4 = [UInt8.ofNat n, UInt8.ofNat (n / 256), UInt8.ofNat (n / 256 / 256), UInt8.ofNat (n / 256 / 256 / 256)] := rfl
  have hc : ∀ t b, (num n 4)[t]? = some b → (w.alloc (.cells #[.int .u8 ((n : Int) % 256), .int .u8 ((n : Int) / 256 % 256), .int .u8 ((n : Int) / 65536 % 256), .int .u8 ((n : Int) / 16777216)] 5)).cell? ⟨w.heap.size, 0 + t, none⟩ = some (byt b) := by
    intro t b hb
    rw [Nat.zero_add]
    refine cellAt (heap_alloc_new w _) t _ ?_
    rw [hnum] at hb
    match t, hb with
    | 0, hb => simp only [List.getElem?_cons_zero, Option.some.injEq] at hb; subst hb; rw [byt_ofNat]; exact congrArg (fun x => some (Value.int .u8 x)) (by omega)
    | 1, hb => simp only [List.getElem?_cons_succ, List.getElem?_cons_zero, Option.some.injEq] at hb; subst hb; rw [byt_ofNat]; exact congrArg (fun x => some (Value.int .u8 x)) (by omega)
    | 2, hb => simp only [List.getElem?_cons_succ, List.getElem?_cons_zero, Option.some.injEq] at hb; subst hb; rw [byt_ofNat]; exact congrArg (fun x => some (Value.int .u8 x)) (by omega)
    | 3, hb => simp only [List.getElem?_cons_succ, List.getElem?_cons_zero, Option.some.injEq] at hb; subst hb; rw [byt_ofNat]; exact congrArg (fun x => some (Value.int .u8 x)) (by omega)
    | t + 4, hb => simp at hb
  have HC := Lib.hid hc
  clear hc hnum
  go_wp2_with (first
    | (with_reducible refine wpList_bytes_text rfl 122 9 (.tmp 14) rfl 5 Tryz.underlying122 Tryz.underlying5 Tryz.underlying9 w.heap.size 0 4 4 rfl (num n 4) rfl HC.out ?_))
  go_ret
  exact ⟨rfl, (Below.refl _ w).alloc (Nat.le_refl _) _⟩

theorem wraps_u64 (n : Int) (h₀ : 0 ≤ n) (h₁ : n < 2 ^ 64) : IntKind.u64.wrap n = n := by
  have : IntKind.u64.wrap n = n % 18446744073709551616 := by simp [IntKind.wrap, IntKind.bits, IntKind.signed]
  rw [this]; omega
theorem val_drop (s : ByteArray) (k : Nat) (h : k < s.size) : val (s.data.toList.drop k) = s[k].toNat + 256 * val (s.data.toList.drop (k + 1)) := by
  have hk : k < s.data.toList.length := h
  rw [List.drop_eq_getElem_cons hk]; rfl
set_option maxHeartbeats 2000000 in
theorem wal_value (w : World) (s : ByteArray) (h8 : s.size ≤ 8) :
    Calls Tryz.prog 77 #[.string s] w fun e w' => e = .returned (.int .u64 ((val s.data.toList : Nat) : Int)) ∧ w = w' := by
  have hsd : s.data.toList.length = s.size := rfl
  have HSD := Lib.hid hsd; clear hsd
  go_enter Tryz.func77, Tryz.ntmps77
  go_wp2
  go_loop [3, 4] (fun u v => ∃ j : Nat, j ≤ s.size ∧ v = .int .i64 ((j : Int) - 1) ∧ u = .int .u64 ((val (s.data.toList.drop j) : Nat) : Int)) (fun _ v => (intOf v + 1).toNat)
  case atStart => exact ⟨s.size, Nat.le_refl _, rfl, by rw [List.drop_of_length_le (by rw [HSD.out]; exact Nat.le_refl _)]; rfl⟩
  case round =>
    obtain ⟨j, hj, rfl, rfl⟩ := hrel
    cases j with
    | zero =>
      have e : ((0 : Nat) : Int) - 1 = -1 := by omega
      rw [e]
      rw [List.drop_zero]
      go_wp2
      go_ret
      exact ⟨rfl, rfl⟩
    | succ k =>
      have e : ((k + 1 : Nat) : Int) - 1 = (k : Int) := by omega
      rw [e]
      have hks : k < s.size := by omega
      have hks' : (k : Int) < (s.size : Int) := by omega
      have hvd := val_drop s k hks
      have hv2 := val_lt (s.data.toList.drop (k + 1))
      have hle : 256 ^ (s.data.toList.drop (k + 1)).length ≤ 256 ^ 7 := Nat.pow_le_pow_right (by decide) (by rw [List.length_drop, HSD.out]; omega)
      generalize val (s.data.toList.drop (k + 1)) = x at *
      have hx : (x : Int) < 72057594037927936 := by omega
      have HVD := Lib.hid hvd
      clear hvd hv2 hle e
      go_wp2
      go_round
      case rel =>
        refine ⟨k, by omega, rfl, congrArg (Value.int .u64) ?_⟩
        have hb := s[k].toNat_lt
        rw [HVD.out]
        rw [wraps_u64 _ (by omega) (by omega), bits_join .u64 64 (by decide) wraps_u64 8 _ _ (by omega) (by omega) (by omega) (by omega) (by omega) (by omega)]
        omega
      case measure => simp [intOf]

theorem num_get (k : Nat) : ∀ (n j : Nat), j < k → (num n k)[j]? = some (UInt8.ofNat (n / 256 ^ j)) := by
  induction k with
  | zero => intro n j h; omega
  | succ k ih =>
    intro n j h
    cases j with
    | zero => simp [num]
    | succ j => simp only [num, List.getElem?_cons_succ]; rw [ih _ j (by omega), Nat.div_div_eq_div_mul, Nat.pow_succ, Nat.mul_comm 256]
theorem num_step (n k j : Nat) (h : j < k) : ((num n k).take j ++ zeros (k - j)).set j (UInt8.ofNat (n / 256 ^ j)) = (num n k).take (j + 1) ++ zeros (k - (j + 1)) := by
  have hl : ((num n k).take j).length = j := by rw [List.length_take, num_len]; omega
  have hz : zeros (k - j) = 0 :: zeros (k - (j + 1)) := by rw [show k - j = (k - (j + 1)) + 1 from by omega]; rfl
  rw [hz]
  have := set_mid ((num n k).take j) (zeros (k - (j + 1))) 0 (UInt8.ofNat (n / 256 ^ j))
  rw [hl] at this
  rw [this, List.take_succ_eq_append_getElem (by rw [num_len]; exact h)]
  have e := num_get k n j h
  obtain ⟨h1, h2⟩ := List.getElem?_eq_some_iff.1 e
  rw [h2, List.append_assoc]; rfl
theorem Tryz.info_u8 : (Tryz.prog.info? 5).map (fun i => (i.zero, i.size, i.bytes)) = some (some (.int .u8 0), 1, 1) := by kernel_rfl
def NumInv (w : World) (n k : Nat) (v : Value) (wr : World) : Prop := ∃ j : Nat, j ≤ k ∧ v = .int .i64 (j : Int) ∧ SetB (w.alloc (.cells ((zeros k).map byt).toArray 5)) wr w.heap.size (.cells (((num n k).take j ++ zeros (k - j)).map byt).toArray 5 (0, 0))
set_option maxHeartbeats 2000000 in
theorem wal_number (w : World) (n k : Nat) (hn : n < 9223372036854775808) (hk : k ≤ 8) :
    Calls Tryz.prog 108 #[.int .u64 (n : Int), .int .i64 (k : Int)] w (NumPost w (num n k)) := by
  obtain ⟨i0, hin, hz0, hz1, hz2⟩ := info_parts Tryz.info_u8
  have hmk := run_make (P := Tryz.prog) w 122 5 i0 _ Tryz.underlying122 hin hz0 .i64 .i64 (k : Int) (k : Int) (by omega) (Int.le_refl _) (by rw [hz2]; omega) (by omega)
  rw [hz1, Int.toNat_natCast] at hmk
  have hz : madeCells (Value.int .u8 0).cells (k * 1) = ((zeros k).map byt).toArray := by
    have := made_same 1 (Value.int .u8 0) (k * 1) (by decide)
    simp only [zeros, List.map_replicate]
    rw [Nat.mul_one] at this ⊢
    exact this
  rw [hz] at hmk
  clear hin hz0 hz1 hz2 hz
  go_enter Tryz.func108, Tryz.ntmps108
  go_wp2
  go_loopw [11] (fun v wr => NumInv w n k v wr) (fun v _ => k - (intOf v).toNat)
  case atStart => exact ⟨0, Nat.zero_le _, rfl, by simpa using SetB.same (heap_alloc_new w _)⟩
  case round =>
    obtain ⟨j, hj, rfl, hs⟩ := hrel
    by_cases hjk : j < k
    · have hjk' : (j : Int) < (k : Int) := by omega
      have hc := cellByt hs.here j 0 (by rw [List.getElem?_append_right (by rw [List.length_take, num_len]; omega), List.length_take, num_len, Nat.min_eq_left hj, Nat.sub_self, show k - j = (k - (j + 1)) + 1 from by omega]; rfl)
      unfold byt at hc
      have hf := freeAt hs.here j
      have HS := Lib.hid hs; clear hs
      go_wp2
      go_roundw
      case rel =>
        refine ⟨j + 1, by omega, congrArg (Value.int .i64) (by omega), ?_⟩
        have hv : Value.int .u8 ((n : Int) / 2 ^ (8 * j) % 256) = byt (UInt8.ofNat (n / 256 ^ j)) := by
          rw [byt_ofNat]
          have h1 : (2 : Int) ^ (8 * j) = ((256 ^ j : Nat) : Int) := by
            rw [Int.pow_mul]; simp
          rw [h1]; congr 1
        rw [hv]
        have h2 := HS.out.setCell j (byt (UInt8.ofNat (n / 256 ^ j)))
        rw [map_set_byt, num_step n k j hjk] at h2
        exact h2
      case measure => simp [intOf]; omega
    · obtain rfl : j = k := by omega
      rw [Nat.sub_self, List.take_of_length_le (by rw [num_len]; exact Nat.le_refl _), show zeros 0 = [] from rfl, List.append_nil] at hs
      have HS := Lib.hid hs; clear hs
      go_wp2_with (first
        | (with_reducible refine wpList_bytes_text rfl 122 9 (.tmp 23) rfl 5 Tryz.underlying122 Tryz.underlying5 Tryz.underlying9 w.heap.size 0 j j rfl (num n j) (num_len _ _) (fun t b hb => by rw [Nat.zero_add]; exact cellByt HS.out.here t b hb) ?_))
      go_ret
      exact ⟨rfl, ((Below.refl _ w).alloc (Nat.le_refl _) _).trans (HS.out.below (Nat.le_refl _))⟩
end Go.Proofs.YthbbammibdhohaaGreatDoor

namespace Go.Proofs.YthbbammibdhohaaGreatDoor
open Go.RowKit Aq Go.Rgn

def sect (l : Bs) (k : Nat) : Bs := (l.drop (64 * k)).take 64
theorem str_tx (b : ByteArray) : Value.string b = tx b.data.toList := by cases b; simp [tx]
/-- the cells of a row of texts -/
def txs (ls : List Bs) : List Value := ls.map tx
theorem Tryz.info_str : (Tryz.prog.info? 9).map (fun i => (i.zero, i.size, i.bytes)) = some (some (.string ⟨#[]⟩), 1, 16) := by kernel_rfl
def SectInv (w : World) (l : Bs) (u v : Value) (wr : World) : Prop := ∃ (j : Nat) (sj : ByteArray), j ≤ 8 ∧ u = .string sj ∧ sj.data.toList = l.drop (64 * j) ∧ wr.ownsRow w.heap.size 9 1 v j (txs ((List.range j).map (sect l))) ∧ Below w.heap.size w wr
def SectPost (w : World) (l : Bs) (e : Ending) (w' : World) : Prop := ∃ v, e = .returned v ∧ w'.ownsRow w.heap.size 9 1 v 8 (txs ((List.range 8).map (sect l))) ∧ Below w.heap.size w w'
set_option maxHeartbeats 2000000 in
set_option maxRecDepth 100000 in
theorem page_Sectors (w : World) (s : ByteArray) (hs : s.size = 512) : Calls Tryz.prog 110 #[.string s] w (SectPost w s.data.toList) := by
  have hsd : s.data.toList.length = 512 := hs
  obtain ⟨i0, hin, hz0, hz1, hz2⟩ := info_parts Tryz.info_str
  have HIN := Lib.hid hin; have HZ0 := Lib.hid hz0; have HZ1 := Lib.hid hz1; have HZ2 := Lib.hid hz2
  have HS := Lib.hid hs; have HSD := Lib.hid hsd
  clear hin hz0 hz1 hz2 hs hsd
  go_enter Tryz.func110, Tryz.ntmps110
  go_wp2
  go_loopw [0, 3] (fun u v wr => SectInv w s.data.toList u v wr) (fun u _ _ => match u with | .string sj => sj.size | _ => 0)
  case atStart => exact ⟨0, s, by omega, rfl, rfl, World.ownsRow_nil _ _ _ _, Below.refl _ _⟩
  case round =>
    obtain ⟨j, sj, hj, rfl, hsj, hown, hbl⟩ := hrel
    have hsz : sj.size = 512 - 64 * j := by
      have : sj.data.toList.length = sj.size := rfl
      rw [← this, hsj, List.length_drop, HSD.out]
    have HSJ := Lib.hid hsj; have HBL := Lib.hid hbl; have HOWN := Lib.hid hown
    by_cases hj8 : j < 8
    · have g1 : (64 : Int) ≤ (sj.size : Int) := by omega
      have g2 : 64 ≤ sj.size := by omega
      have hnews : ∀ t u, [tx (sect s.data.toList j)][t]? = some u → (wr.alloc (.cells #[.string (sj.extract 0 64)] 9)).cell? ((⟨wr.heap.size, 0, none⟩ : Addr).add t) = some u := by
        intro t u hu
        match t, hu with
        | 0, hu =>
          simp only [List.getElem?_cons_zero, Option.some.injEq] at hu
          subst hu
          rw [Addr.add_here]
          refine cellAt (heap_alloc_new wr _) 0 _ ?_
          have h1 := Lib.extract_data sj 0 64
          rw [HSJ.out, List.drop_zero] at h1
          show some (Value.string (sj.extract 0 64)) = _
          rw [str_tx, h1]; rfl
      have HN := Lib.hid hnews
      have HSZ := Lib.hid hsz
      clear hsj hbl hown hnews hsz
      go_wp2_with (first
        | (at_builtin; refine wpList_append_own _ rfl (.tmp 11) (.tmp 15) 91 rfl w.heap.size 9 i0 _ 1 16 Tryz.underlying91 HIN.out HZ0.out HZ1.out HZ2.out rfl (by decide) _ _ _ rfl (HOWN.out.alloc _) ⟨wr.heap.size, 0, none⟩ 1 1 [tx (sect s.data.toList j)] rfl rfl HN.out ?c2 ?c3 ?c4 ?c5 ?_))
      case c2 => intro u hu; rw [List.mem_singleton.1 hu]; rfl
      case c3 => unfold maxLen; omega
      case c4 => omega
      case c5 => have := HBL.out.size; simp; omega
      intro v' w1 hown1 hgr _
      have hb1 : Below w.heap.size w w1 := (HBL.out.alloc HBL.out.size _).grown hgr (by have := HBL.out.size; simp; omega) (fun k hk => (HOWN.out.lt k hk).1)
      have hr1 : SectInv w s.data.toList (.string (sj.extract 64 sj.size)) v' w1 := by
        refine ⟨j + 1, _, by omega, rfl, ?_, ?_, hb1⟩
        · rw [Lib.extract_data, HSJ.out, List.drop_drop, List.take_of_length_le (by rw [List.length_drop, HSD.out]; have := HSZ.out; omega)]
          congr 1
        · have e : txs ((List.range (j + 1)).map (sect s.data.toList)) = txs ((List.range j).map (sect s.data.toList)) ++ [tx (sect s.data.toList j)] := by simp only [List.range_succ, List.map_append, txs, List.map_cons, List.map_nil]
          rw [e]; exact hown1
      have HR := Lib.hid hr1
      have HSZ2 : Hid ((sj.extract 64 sj.size).size < sj.size) := by
        show _ < _
        rw [ByteArray.size_extract]; omega
      clear hown1 hgr hb1 hr1
      go_wp2
      go_roundw
      case rel => exact HR.out
      case measure => exact HSZ2.out
    · obtain rfl : j = 8 := by omega
      have g1 : ¬ (0 < (sj.size : Int)) := by omega
      clear hown hbl hsj
      go_wp2
      go_ret
      exact ⟨_, rfl, HOWN.out, HBL.out⟩
end Go.Proofs.YthbbammibdhohaaGreatDoor
