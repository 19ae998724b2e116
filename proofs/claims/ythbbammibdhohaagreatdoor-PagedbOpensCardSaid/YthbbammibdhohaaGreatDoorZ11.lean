/- Crash safety: the pages are laid, the log begins anew. No condition. Crash safety: a record is written to the log, and its pages are laid. No condition. A transaction's Read and Write. Conditions as stated. A transaction's Alloc. Conditions as stated. -/
import Derived.Test.YthbbammibdhohaaGreatDoorZ10
set_option linter.unusedSimpArgs false
set_option linter.unusedVariables false
namespace Go.Proofs.YthbbammibdhohaaGreatDoor
open Go.RowKit Aq Go.Rgn

theorem redoAll_flat (log : Nat) (pss : List (List Pg)) : redoAll log pss = redoActs log pss.flatten := by
  induction pss with
  | nil => rfl
  | cons ps pss ih =>
    show redoActs log ps ++ redoAll log pss = _
    rw [ih, List.flatten_cons]
    unfold redoActs
    rw [List.flatMap_append]
def IdsOk (cnt : Nat) (ps : List Pg) : Prop := ∀ x ∈ ps, x.1 < cnt ∧ x.2.length = 512
theorem idsOk_flat {cnt : Nat} {pss : List (List Pg)} (h : ∀ ps ∈ pss, PgsOk cnt ps) : IdsOk cnt pss.flatten := fun x hx => by
  obtain ⟨ps, hps, hx⟩ := List.mem_flatten.1 hx
  exact (h ps hps).ids x hx
theorem mem_redo {log i : Nat} {t : Bs} {ps : List Pg} (h : DAct.W i t ∈ redoActs log ps) : ∃ x ∈ ps, ∃ k, k < 8 ∧ i = log + x.1 * 8 + k ∧ t = sect x.2 k := by
  unfold redoActs at h
  obtain ⟨x, hx, h⟩ := List.mem_flatMap.1 h
  unfold pageActs at h
  obtain ⟨k, hk, h⟩ := List.mem_map.1 h
  have h2 : DAct.W (log + x.1 * 8 + k) (sect x.2 k) = .W i t := h
  injection h2 with h3 h4
  exact ⟨x, hx, k, List.mem_range.1 hk, h3.symm, h4.symm⟩
theorem redo_in {log cnt n : Nat} {ps : List Pg} (h : IdsOk cnt ps) (hr : log + cnt * 8 ≤ n) : ∀ a ∈ redoActs log ps, ActIn n a := by
  intro a ha
  cases a with
  | F => trivial
  | W i t =>
    obtain ⟨x, hx, k, hk, rfl, rfl⟩ := mem_redo ha
    have h1 := h x hx
    exact ⟨by omega, by rw [sect_len h1.2 hk]; exact Nat.le_refl _⟩
theorem lastW_page (log id j k : Nat) (b : Bs) (hb : b.length = 512) (hk : k < 8) : ∀ n, n ≤ 8 → lastW (log + j * 8 + k) ((List.range n).map (pageAct log id b)) = if id = j ∧ k < n then some (sect b k) else none := by
  intro n
  induction n with
  | zero => intro _; simp [lastW]
  | succ n ih =>
    intro hn
    rw [List.range_succ, List.map_append, lastW_append, ih (by omega)]
    have e : lastW (log + j * 8 + k) (List.map (pageAct log id b) [n]) = if log + id * 8 + n = log + j * 8 + k then some (pad (sect b n)) else none := rfl
    rw [e]
    by_cases h1 : log + id * 8 + n = log + j * 8 + k
    · have h2 : id = j ∧ n = k := by omega
      obtain ⟨rfl, rfl⟩ := h2
      have e2 : (if id = id ∧ n < n then some (sect b n) else none) = none := if_neg (by omega)
      rw [if_pos h1, e2, if_pos (by omega), pad_full (sect_len hb (by omega))]; rfl
    · rw [if_neg h1]
      by_cases h3 : id = j ∧ k < n
      · rw [if_pos h3, if_pos ⟨h3.1, by omega⟩]; rfl
      · rw [if_neg h3, if_neg (by omega)]; rfl
theorem lastW_redo (log j k : Nat) (hk : k < 8) : ∀ (ps : List Pg), (∀ x ∈ ps, x.2.length = 512) → lastW (log + j * 8 + k) (redoActs log ps) = (lastPg j ps).map fun b => sect b k := by
  intro ps
  induction ps with
  | nil => intro _; rfl
  | cons x ps ih =>
    intro h
    have e : redoActs log (x :: ps) = pageActs log x.1 x.2 ++ redoActs log ps := rfl
    rw [e, lastW_append, ih (fun y hy => h y (List.mem_cons_of_mem _ hy))]
    unfold pageActs
    rw [lastW_page log x.1 j k x.2 (h x (List.mem_cons_self ..)) hk 8 (Nat.le_refl _)]
    simp only [lastPg]
    cases lastPg j ps with
    | some b => rfl
    | none =>
      by_cases h1 : x.1 = j
      · simp [h1, hk]
      · simp [h1]
/-- what differs only at pages that the log bears is found alike -/
theorem found_pages {f g : Nat → Bs} {log ep cnt n : Nat} {pss : List (List Pg)} {W : Nat → Bs} (h : FoundF g log ep cnt pss W) (hlog : 1 ≤ log) (hlow : ∀ i, i < log → f i = g i)
    (hpg : ∀ id k, id < cnt → k < 8 → lastPg id pss.flatten = none → f (log + id * 8 + k) = g (log + id * 8 + k)) (hn : n = log) : FoundF f log ep cnt pss W := by
  subst hn
  refine ⟨?_, h.ok, fun id hid => ?_⟩
  · rcases h.lg with ⟨h1, h2, h3⟩ | ⟨h1, h2, h3, h4, h5⟩
    · exact .inl ⟨by rw [hlow 0 (by omega)]; exact h1, h2, h3⟩
    · refine .inr ⟨by rw [hlow 0 (by omega)]; exact h1, h2, h3, h4, ?_⟩
      have e : secsF f (((framesB (pss.map recB)).length + 63) / 64) = secsF g (((framesB (pss.map recB)).length + 63) / 64) := by
        unfold secsF
        simp only [List.flatMap]
        congr 1
        exact List.map_congr_left fun k hk => hlow _ (by have := List.mem_range.1 hk; omega)
      rw [e]; exact h5
  · rw [← h.view id hid]
    unfold viewF
    cases hl : lastPg id pss.flatten with
    | some b => rfl
    | none => simp only [Option.getD_none]; exact imgF_congr fun k hk => hpg id k hid hk hl
/-- a database's disk at rest: whatever is kept, these pages are found, and they lie there -/
structure Rest (D : Disk) (log ep cnt : Nat) (pss : List (List Pg)) (W : Nat → Bs) : Prop where
  ok : D.Ok
  dn : D.down = false
  log2 : 2 ≤ log
  room : log + cnt * 8 ≤ D.kept.length
  cnt4 : 4 ≤ cnt
  safe : ∀ f, Cont D f → FoundF f log ep cnt pss W
  live : ∀ id, id < cnt → imgF D.look log id = W id
theorem found_ok {f : Nat → Bs} {log ep cnt : Nat} {pss : List (List Pg)} {W : Nat → Bs} (h : FoundF f log ep cnt pss W) : IdsOk cnt pss.flatten := idsOk_flat h.ok
/-- the pages are laid anew: those that the log bears -/
theorem redo_halt {D D' : Disk} {log ep cnt : Nat} {pss : List (List Pg)} {W : Nat → Bs} (hs : ∀ f, Cont D f → FoundF f log ep cnt pss W) (hlog : 2 ≤ log) (hroom : log + cnt * 8 ≤ D.kept.length) (ps : List Pg) (hps : ∀ x ∈ ps, x ∈ pss.flatten)
    (hlen : D'.kept.length = D.kept.length) (hp : ∀ i s, i < D.kept.length → D'.poss i s → D.poss i s ∨ ∃ t, .W i t ∈ redoActs log ps ∧ s = pad t) : ∀ f, Cont D' f → FoundF f log ep cnt pss W := by
  intro f hf
  obtain ⟨g, hg, hgf⟩ := cont_back (D := D) f
  have hw : ∀ i, i < D.kept.length → (∀ t, DAct.W i t ∉ redoActs log ps) → f i = g i := fun i hi hno => by
    rcases hp i (f i) hi (hf i (by rw [hlen]; exact hi)) with h | ⟨t, ht, _⟩
    · exact (hgf i hi h).symm
    · exact absurd ht (hno t)
  refine found_pages (n := log) (hs g hg) (by omega) (fun i hi => hw i (by omega) fun t ht => ?_) (fun id k hid hk hno => hw _ (by omega) fun t ht => ?_) rfl
  · obtain ⟨x, hx, k, hk, hi2, _⟩ := mem_redo ht
    omega
  · obtain ⟨x, hx, k2, hk2, hi2, _⟩ := mem_redo ht
    have e : x.1 = id := by omega
    exact lastPg_none hno x (hps x hx) e
theorem redo_live {D D' : Disk} {log cnt : Nat} {ps : List Pg} (h : Ran D (redoActs log ps) D') (hps : IdsOk cnt ps) (hroom : log + cnt * 8 ≤ D.kept.length) (id : Nat) (hid : id < cnt) : imgF D'.look log id = (lastPg id ps).getD (imgF D.look log id) := by
  have hk : ∀ k, k < 8 → D'.look (log + id * 8 + k) = ((lastPg id ps).map fun b => sect b k).getD (D.look (log + id * 8 + k)) := fun k hk => by
    rw [h.look _ (by omega), lastW_redo log id k hk ps fun x hx => (hps x hx).2]
  cases hl : lastPg id ps with
  | some b =>
    rw [hl] at hk
    exact imgF_of_sect (hps _ (lastPg_mem hl)).2 hk
  | none =>
    rw [hl] at hk
    exact imgF_congr hk
/-- nothing is pending: the disk holds what it shows -/
def Still (D : Disk) : Prop := ∀ i s, D.poss i s → s = D.look i
theorem still_cont {D : Disk} (h : Still D) {f : Nat → Bs} (hc : Cont D f) (i : Nat) (hi : i < D.kept.length) : f i = D.look i := h i _ (hc i hi)
/-- an empty log -/
theorem found_empty {f : Nat → Bs} {log ep cnt : Nat} {W : Nat → Bs} (h0 : f 0 = headB ep 0) (hep : ep ≤ 4611686018427387904) (hv : ∀ id, id < cnt → imgF f log id = W id) : FoundF f log ep cnt [] W := by
  refine ⟨.inr ⟨h0, hep, (fun r hr => by cases hr), Nat.zero_le _, rfl⟩, (fun ps hps => by cases hps), fun id hid => ?_⟩
  exact hv id hid
theorem settle_rest {D : Disk} {log ep cnt : Nat} {pss : List (List Pg)} {W : Nat → Bs} (h : Rest D log ep cnt pss W) (hep : ep < 4611686018427387904) :
    let r := D.run [.F, .W 0 (headB (ep + 1) 0), .F]
    (r.2 = 0 ∧ Rest r.1 log (ep + 1) cnt [] W ∧ r.1.kept.length = D.kept.length) ∨
      (r.2 = 10 ∧ r.1.down = true ∧ r.1.Ok ∧ r.1.kept.length = D.kept.length ∧ ∀ f, Cont r.1 f → FoundF f log ep cnt pss W ∨ FoundF f log (ep + 1) cnt [] W) := by
  intro r
  have hn : 0 < D.kept.length := h.ok.pos
  have hh := head_len (ep + 1) 0
  have hpad : pad (headB (ep + 1) 0) = headB (ep + 1) 0 := pad_full hh
  -- the first flush
  rcases run_cases (l := [.F]) h.ok h.dn (by intro a ha; rw [List.mem_singleton.1 ha]; trivial) with ⟨a0, a1⟩ | ⟨a0, a1⟩
  · have hst1 : Still (D.run [.F]).1 := fun i s hp => flushed (l := []) h.ok h.dn (by intro a ha; cases ha) a0 i s hp
    have hlk1 : ∀ i, i < D.kept.length → (D.run [.F]).1.look i = D.look i := fun i hi => a1.look i hi
    generalize hD1 : (D.run [.F]).1 = D1 at a1 hst1 hlk1
    have hrun1 : r = D1.run [.W 0 (headB (ep + 1) 0), .F] := by
      show D.run ([.F] ++ [.W 0 (headB (ep + 1) 0), .F]) = _
      rw [Disk.run_append, if_pos a0, hD1]
    rcases run_cases (l := [.W 0 (headB (ep + 1) 0)]) a1.ok a1.down (by intro a ha; rw [List.mem_singleton.1 ha, a1.len]; exact ⟨hn, by omega⟩) with ⟨b0, b1⟩ | ⟨b0, b1⟩
    · have hD2 : D1.run [.W 0 (headB (ep + 1) 0), .F] = (D1.run [.W 0 (headB (ep + 1) 0)]).1.run [.F] := by
        show D1.run ([.W 0 (headB (ep + 1) 0)] ++ [.F]) = _
        rw [Disk.run_append, if_pos b0]
      have hfl := flushed (l := [.W 0 (headB (ep + 1) 0)]) a1.ok a1.down (by intro a ha; rw [List.mem_singleton.1 ha, a1.len]; exact ⟨hn, by omega⟩)
      rw [show ([DAct.W 0 (headB (ep + 1) 0)] ++ [.F]) = [.W 0 (headB (ep + 1) 0), .F] from rfl, ← hrun1] at hfl
      rw [hD2] at hrun1
      generalize (D1.run [.W 0 (headB (ep + 1) 0)]).1 = D2 at b1 hrun1
      have hl2 : D2.kept.length = D.kept.length := b1.len.trans a1.len
      have hlk2 : ∀ i, i < D.kept.length → D2.look i = if i = 0 then headB (ep + 1) 0 else D.look i := fun i hi => by
        rw [b1.look i (by rw [a1.len]; exact hi)]
        by_cases hi0 : i = 0
        · subst hi0; simp [lastW, hpad]
        · have : ¬ (0 = i) := fun e => hi0 e.symm
          simp [lastW, this, hi0, hlk1 i hi]
      have hv : ∀ f : Nat → Bs, (∀ i, 0 < i → i < D.kept.length → f i = D.look i) → ∀ id, id < cnt → imgF f log id = W id := fun f hf id hid => by
        rw [← h.live id hid]
        exact imgF_congr fun k hk => hf _ (by have := h.log2; omega) (by have := h.room; omega)
      -- what may be there once the head is written
      have hpos : ∀ D', D'.kept.length = D.kept.length → (∀ i s, i < D.kept.length → D'.poss i s → D2.poss i s) → ∀ f, Cont D' f → FoundF f log ep cnt pss W ∨ FoundF f log (ep + 1) cnt [] W := by
        intro D' hl' hp f hf
        have hone : ∀ i, i < D.kept.length → D1.poss i (f i) ∨ (i = 0 ∧ f i = headB (ep + 1) 0) := fun i hi => by
          rcases b1.poss i (f i) (by rw [a1.len]; exact hi) (hp i _ hi (hf i (by rw [hl']; exact hi))) with h1 | ⟨t, ht, hs⟩
          · exact .inl h1
          · have h2 := List.mem_singleton.1 ht
            injection h2 with h3 h4
            subst h4
            exact .inr ⟨h3, by rw [hs, hpad]⟩
        have hoth : ∀ i, 0 < i → i < D.kept.length → f i = D.look i := fun i hi0 hi => by
          rcases hone i hi with h1 | ⟨h1, _⟩
          · rw [hst1 i _ h1, hlk1 i hi]
          · omega
        rcases hone 0 hn with h1 | ⟨_, h1⟩
        · refine .inl (h.safe f fun i hi => ?_)
          by_cases hi0 : i = 0
          · subst hi0; rw [hst1 0 _ h1, hlk1 0 hn]; exact look_poss hn
          · rw [hoth i (by omega) hi]; exact look_poss hi
        · exact .inr (found_empty h1 (by omega) (hv f hoth))
      rcases run_cases (l := [.F]) b1.ok b1.down (by intro a ha; rw [List.mem_singleton.1 ha]; trivial) with ⟨c0, c1⟩ | ⟨c0, c1⟩
      · rw [← hrun1] at c0 c1
        have hl3 : r.1.kept.length = D.kept.length := c1.len.trans hl2
        have hst3 : Still r.1 := hfl c0
        have hlk3 : ∀ i, i < D.kept.length → r.1.look i = if i = 0 then headB (ep + 1) 0 else D.look i := fun i hi => by
          rw [← hlk2 i hi]; exact c1.look i (by rw [hl2]; exact hi)
        refine .inl ⟨c0, ⟨c1.ok, c1.down, h.log2, by rw [hl3]; exact h.room, h.cnt4, fun f hf => ?_, fun id hid => ?_⟩, hl3⟩
        · have hf3 : ∀ i, i < D.kept.length → f i = if i = 0 then headB (ep + 1) 0 else D.look i := fun i hi => by
            rw [still_cont hst3 hf i (by rw [hl3]; exact hi), hlk3 i hi]
          exact found_empty (by rw [hf3 0 hn]; rfl) (by omega) (hv f fun i hi0 hi => by rw [hf3 i hi, if_neg (by omega)])
        · exact hv _ (fun i hi0 hi => by rw [hlk3 i hi, if_neg (by omega)]) id hid
      · rw [← hrun1] at c0 c1
        refine .inr ⟨c0, c1.down, c1.ok, c1.len.trans hl2, hpos r.1 (c1.len.trans hl2) fun i s hi hp => ?_⟩
        rcases c1.poss i s (by rw [hl2]; exact hi) hp with h1 | ⟨t, ht, _⟩
        · exact h1
        · have h2 := List.mem_singleton.1 ht; cases h2
    · have hD2 : D1.run [.W 0 (headB (ep + 1) 0), .F] = D1.run [.W 0 (headB (ep + 1) 0)] := by
        show D1.run ([.W 0 (headB (ep + 1) 0)] ++ [.F]) = _
        rw [Disk.run_append, if_neg (by rw [b0]; decide)]
      rw [hD2] at hrun1
      rw [← hrun1] at b0 b1
      refine .inr ⟨b0, b1.down, b1.ok, b1.len.trans a1.len, fun f hf => ?_⟩
      have hone : ∀ i, i < D.kept.length → D1.poss i (f i) ∨ (i = 0 ∧ f i = headB (ep + 1) 0) := fun i hi => by
        rcases b1.poss i (f i) (by rw [a1.len]; exact hi) (hf i (by rw [b1.len, a1.len]; exact hi)) with h1 | ⟨t, ht, hs⟩
        · exact .inl h1
        · have h2 := List.mem_singleton.1 ht
          injection h2 with h3 h4
          subst h4
          exact .inr ⟨h3, by rw [hs, hpad]⟩
      have hoth : ∀ i, 0 < i → i < D.kept.length → f i = D.look i := fun i hi0 hi => by
        rcases hone i hi with h1 | ⟨h1, _⟩
        · rw [hst1 i _ h1, hlk1 i hi]
        · omega
      rcases hone 0 hn with h1 | ⟨_, h1⟩
      · refine .inl (h.safe f fun i hi => ?_)
        by_cases hi0 : i = 0
        · subst hi0; rw [hst1 0 _ h1, hlk1 0 hn]; exact look_poss hn
        · rw [hoth i (by omega) hi]; exact look_poss hi
      · refine .inr (found_empty h1 (by omega) fun id hid => ?_)
        rw [← h.live id hid]
        exact imgF_congr fun k hk => hoth _ (by have := h.log2; omega) (by have := h.room; omega)
  · have hrun1 : r = D.run [.F] := by
      show D.run ([.F] ++ [.W 0 (headB (ep + 1) 0), .F]) = _
      rw [Disk.run_append, if_neg (by rw [a0]; decide)]
    rw [← hrun1] at a0 a1
    refine .inr ⟨a0, a1.down, a1.ok, a1.len, fun f hf => .inl (h.safe f (cont_mono a1.len (fun i s hi hp => ?_) hf))⟩
    rcases a1.poss i s hi hp with h1 | ⟨t, ht, _⟩
    · exact h1
    · have h2 := List.mem_singleton.1 ht; cases h2
end Go.Proofs.YthbbammibdhohaaGreatDoor

namespace Go.Proofs.YthbbammibdhohaaGreatDoor
open Go.RowKit Aq Go.Rgn

theorem framesB_snoc (recs : List Bs) (z : Bs) : framesB (recs ++ [z]) = framesB recs ++ frameB z := by simp [framesB]
theorem mem_lay {old i : Nat} {all t : Bs} (h : DAct.W i t ∈ layActs old all) : ∃ j, j < (all.length + 63) / 64 - old / 64 ∧ i = 1 + (old / 64 + j) ∧ t = (all.drop (64 * (old / 64 + j))).take 64 := by
  rw [layActs_eq] at h
  obtain ⟨j, hj, h⟩ := List.mem_map.1 h
  have h2 : DAct.W (1 + (old / 64 + j)) ((all.drop (64 * (old / 64 + j))).take 64) = .W i t := h
  injection h2 with h3 h4
  exact ⟨j, List.mem_range.1 hj, h3.symm, h4.symm⟩
theorem lastW_lay (s0 : Nat) (all : Bs) (j : Nat) : ∀ m, lastW (1 + (s0 + j)) ((List.range m).map (layAct s0 all)) = if j < m then some (pad ((all.drop (64 * (s0 + j))).take 64)) else none := by
  intro m
  induction m with
  | zero => rfl
  | succ m ih =>
    rw [List.range_succ, List.map_append, lastW_append, ih]
    have e : lastW (1 + (s0 + j)) (List.map (layAct s0 all) [m]) = if 1 + (s0 + m) = 1 + (s0 + j) then some (pad ((all.drop (64 * (s0 + m))).take 64)) else none := rfl
    rw [e]
    by_cases h1 : m = j
    · subst h1
      have e2 : (if m < m then some (pad ((all.drop (64 * (s0 + m))).take 64)) else none) = none := if_neg (by omega)
      rw [if_pos rfl, e2, if_pos (by omega)]; rfl
    · rw [if_neg (by omega)]
      by_cases h2 : j < m
      · rw [if_pos h2, if_pos (by omega)]; rfl
      · rw [if_neg h2, if_neg (by omega)]; rfl
theorem pad_get {l : Bs} {i : Nat} (h : i < l.length) : (pad l)[i]? = l[i]? := by rw [pad, List.getElem?_append_left h]
theorem slice_get (all : Bs) (q r : Nat) (hr : r < 64) (h : 64 * q + r < all.length) : (pad ((all.drop (64 * q)).take 64))[r]? = all[64 * q + r]? := by
  rw [pad_get (by rw [List.length_take, List.length_drop]; omega), List.getElem?_take_of_lt hr, List.getElem?_drop]
theorem slice_len (all : Bs) (q : Nat) : (pad ((all.drop (64 * q)).take 64)).length = 64 := pad_len (by rw [List.length_take]; omega)
/-- a sector of the log is as it was, or holds its part of all -/
theorem found_lay {f g : Nat → Bs} {log ep cnt : Nat} {pss : List (List Pg)} {W : Nat → Bs} {all rest : Bs} (h : FoundF g log ep cnt pss W) (hall : all = framesB (pss.map recB) ++ rest) (h0 : f 0 = g 0)
    (hlow : ∀ j, 1 + j < log → f (1 + j) = g (1 + j) ∨ f (1 + j) = pad ((all.drop (64 * j)).take 64)) (hlen : ∀ j, 1 + j < log → (g (1 + j)).length = 64) (hhi : ∀ i, log ≤ i → f i = g i) : FoundF f log ep cnt pss W := by
  refine ⟨?_, h.ok, fun id hid => ?_⟩
  · rcases h.lg with ⟨h1, h2, h3⟩ | ⟨h1, h2, h3, h4, h5⟩
    · exact .inl ⟨by rw [h0]; exact h1, h2, h3⟩
    · refine .inr ⟨by rw [h0]; exact h1, h2, h3, h4, ?_⟩
      have hg := (secs_iff (b := framesB (pss.map recB)) fun j hj => hlen j (by omega)).1 h5
      refine (secs_iff fun j hj => ?_).2 fun i hi => ?_
      · rcases hlow j (by omega) with e | e
        · rw [e]; exact hlen j (by omega)
        · rw [e]; exact slice_len all j
      · rcases hlow (i / 64) (by omega) with e | e
        · rw [e]; exact hg i hi
        · have hlt : i < all.length := by rw [hall, List.length_append]; omega
          rw [e, slice_get all (i / 64) (i % 64) (by omega) (by omega), show 64 * (i / 64) + i % 64 = i from by omega, hall, List.getElem?_append_left hi]
  · rw [← h.view id hid]
    unfold viewF
    cases hl : lastPg id pss.flatten with
    | some b => rfl
    | none => simp only [Option.getD_none]; exact imgF_congr fun k hk => hhi _ (by omega)
def addPg (J : List Pg) (W : Nat → Bs) : Nat → Bs := fun id => (lastPg id J).getD (W id)
/-- the record is in the log -/
theorem found_new {f g : Nat → Bs} {log ep cnt : Nat} {pss : List (List Pg)} {W : Nat → Bs} {J : List Pg} (h : FoundF g log ep cnt pss W) (hJ : PgsOk cnt J) (hz : (recB J).length ≤ 65536) (hep : ep ≤ 4611686018427387904)
    (h0 : f 0 = headB ep (framesB ((pss ++ [J]).map recB)).length) (hfit : (framesB ((pss ++ [J]).map recB)).length ≤ 64 * (log - 1)) (hlen : ∀ j, 1 + j < log → (f (1 + j)).length = 64)
    (hs : SecE f (framesB ((pss ++ [J]).map recB))) (hhi : ∀ id k, id < cnt → k < 8 → lastPg id J = none → lastPg id pss.flatten = none → f (log + id * 8 + k) = g (log + id * 8 + k)) : FoundF f log ep cnt (pss ++ [J]) (addPg J W) := by
  refine ⟨.inr ⟨h0, hep, fun r hr => ?_, hfit, (secs_iff fun j hj => hlen j (by omega)).2 hs⟩, fun ps hps => ?_, fun id hid => ?_⟩
  · rw [List.map_append] at hr
    rcases List.mem_append.1 hr with hr | hr
    · rcases h.lg with ⟨_, _, h3⟩ | ⟨_, _, h3, _, _⟩
      · rw [h3] at hr; cases hr
      · exact h3 r hr
    · rw [List.mem_singleton.1 hr]; exact hz
  · rcases List.mem_append.1 hps with hps | hps
    · exact h.ok ps hps
    · rw [List.mem_singleton.1 hps]; exact hJ
  · have hv := h.view id hid
    unfold viewF at hv ⊢
    have e : (pss ++ [J]).flatten = pss.flatten ++ J := by simp
    rw [e, lastPg_append]
    unfold addPg
    cases h1 : lastPg id J with
    | some b => rfl
    | none =>
      simp only [Option.none_or, Option.getD_none]
      rw [← hv]
      cases h2 : lastPg id pss.flatten with
      | some b => rfl
      | none => simp only [Option.getD_none]; exact imgF_congr fun k hk => hhi id k hid hk h1 h2
def FoundEither (f : Nat → Bs) (log ep cnt : Nat) (pss : List (List Pg)) (J : List Pg) (W : Nat → Bs) : Prop := FoundF f log ep cnt pss W ∨ FoundF f log ep cnt (pss ++ [J]) (addPg J W)
theorem run_snoc (D : Disk) (l : List DAct) (a : DAct) (m : List DAct) : D.run (l ++ a :: m) = if (D.run (l ++ [a])).2 = 0 then (D.run (l ++ [a])).1.run m else D.run (l ++ [a]) := by
  rw [show l ++ a :: m = (l ++ [a]) ++ m from by simp, Disk.run_append]
theorem sync_rest {D : Disk} {log ep cnt : Nat} {pss : List (List Pg)} {W : Nat → Bs} (h : Rest D log ep cnt pss W) (J : List Pg) (hJ : PgsOk cnt J) (hz : (recB J).length ≤ 65536) (hep : ep ≤ 4611686018427387904)
    (hfit : (framesB (pss.map recB)).length + (8 + (recB J).length) ≤ 64 * (log - 1)) :
    let r := D.run (layActs (framesB (pss.map recB)).length (framesB (pss.map recB) ++ frameB (recB J)) ++ [.F, .W 0 (headB ep (framesB (pss.map recB) ++ frameB (recB J)).length), .F])
    (r.2 = 0 ∧ r.1.Ok ∧ r.1.down = false ∧ r.1.kept.length = D.kept.length ∧ (∀ f, Cont r.1 f → FoundF f log ep cnt (pss ++ [J]) (addPg J W)) ∧ ∀ i, log ≤ i → i < D.kept.length → r.1.look i = D.look i) ∨
      (r.2 = 10 ∧ r.1.down = true ∧ r.1.Ok ∧ r.1.kept.length = D.kept.length ∧ ∀ f, Cont r.1 f → FoundEither f log ep cnt pss J W) := by
  obtain ⟨bytes, hby⟩ : ∃ b, b = framesB (pss.map recB) := ⟨_, rfl⟩
  obtain ⟨all, hall⟩ : ∃ a, a = bytes ++ frameB (recB J) := ⟨_, rfl⟩
  have hall2 : framesB ((pss ++ [J]).map recB) = all := by rw [List.map_append, hall, hby]; exact framesB_snoc _ _
  have hal : all.length = bytes.length + (8 + (recB J).length) := by rw [hall, List.length_append, frame_len]
  rw [← hby, ← hall]
  rw [← hby] at hfit
  intro r
  have hn : 0 < D.kept.length := h.ok.pos
  have hroom := h.room
  have hh := head_len ep all.length
  have hpad : pad (headB ep all.length) = headB ep all.length := pad_full hh
  obtain ⟨lay, hlay⟩ : ∃ l, l = layActs bytes.length all := ⟨_, rfl⟩
  have hr : r = D.run (lay ++ [.F, .W 0 (headB ep all.length), .F]) := by rw [hlay]
  have hin : ∀ a ∈ lay, ActIn D.kept.length a := fun a ha => by
    cases a with
    | F => trivial
    | W i t =>
      rw [hlay] at ha
      obtain ⟨j, hj, rfl, rfl⟩ := mem_lay ha
      exact ⟨by omega, by rw [List.length_take]; omega⟩
  have hD0 := h.safe D.look (cont_look D)
  have hlk0 : ∀ j, 1 + j < log → (D.look (1 + j)).length = 64 := fun j hj => cont_len h.ok (cont_look D) (1 + j) (by omega)
  -- behind the laying, and within it
  have hP1 : ∀ D', D'.kept.length = D.kept.length → (∀ i s, i < D.kept.length → D'.poss i s → D.poss i s ∨ ∃ t, .W i t ∈ lay ∧ s = pad t) → ∀ f, Cont D' f → FoundF f log ep cnt pss W := by
    intro D' hl' hp f hf
    obtain ⟨g, hg, hgf⟩ := cont_back (D := D) f
    have hw : ∀ i, i < D.kept.length → f i = g i ∨ ∃ t, .W i t ∈ lay ∧ f i = pad t := fun i hi => by
      rcases hp i (f i) hi (hf i (by rw [hl']; exact hi)) with h1 | h1
      · exact .inl (hgf i hi h1).symm
      · exact .inr h1
    have hsafe := h.safe g hg
    refine ⟨?_, hsafe.ok, ?_⟩
    all_goals
      have hno : ∀ i, i < D.kept.length → (∀ j, i ≠ 1 + (bytes.length / 64 + j) ∨ (all.length + 63) / 64 - bytes.length / 64 ≤ j) → f i = g i := fun i hi hne => by
        rcases hw i hi with h1 | ⟨t, ht, _⟩
        · exact h1
        · rw [hlay] at ht
          obtain ⟨j, hj, hij, _⟩ := mem_lay ht
          rcases hne j with h2 | h2
          · exact absurd hij h2
          · omega
      have hfnd : ∀ f' : Nat → Bs, (∀ i, i < D.kept.length → f' i = f i) → (∀ i, D.kept.length ≤ i → f' i = g i) → FoundF f' log ep cnt pss W := fun f' h1 h2 => by
        refine found_lay hsafe (all := all) (rest := frameB (recB J)) (by rw [← hby]; exact hall) ?_ (fun j hj => ?_) (fun j hj => cont_len h.ok hg (1 + j) (by omega)) fun i hi => ?_
        · rw [h1 0 hn]; exact hno 0 hn fun j => .inl (by omega)
        · rw [h1 (1 + j) (by omega)]
          rcases hw (1 + j) (by omega) with h3 | ⟨t, ht, h4⟩
          · exact .inl h3
          · rw [hlay] at ht
            obtain ⟨j2, hj2, hij, rfl⟩ := mem_lay ht
            have : bytes.length / 64 + j2 = j := by omega
            rw [this] at h4
            exact .inr h4
        · by_cases hi2 : i < D.kept.length
          · rw [h1 i hi2]; exact hno i hi2 fun j => by omega
          · exact h2 i (by omega)
    · have h9 := (hfnd (fun i => if i < D.kept.length then f i else g i) (fun i hi => if_pos hi) (fun i hi => if_neg (by omega))).lg
      have hmix : ∀ i, i < log → (fun i => if i < D.kept.length then f i else g i) i = f i := fun i hi => if_pos (by omega)
      rcases h9 with ⟨h1, h2, h3⟩ | ⟨h1, h2, h3, h4, h5⟩
      · exact .inl ⟨by rw [← hmix 0 (by have := h.log2; omega)]; exact h1, h2, h3⟩
      · refine .inr ⟨by rw [← hmix 0 (by have := h.log2; omega)]; exact h1, h2, h3, h4, ?_⟩
        have e : secsF (fun i => if i < D.kept.length then f i else g i) (((framesB (pss.map recB)).length + 63) / 64) = secsF f (((framesB (pss.map recB)).length + 63) / 64) := by
          unfold secsF
          simp only [List.flatMap]
          congr 1
          exact List.map_congr_left fun k hk => hmix (1 + k) (by have := List.mem_range.1 hk; omega)
        rw [← e]; exact h5
    · intro id hid
      have h9 := (hfnd (fun i => if i < D.kept.length then f i else g i) (fun i hi => if_pos hi) (fun i hi => if_neg (by omega))).view id hid
      rw [← h9]
      unfold viewF
      cases hl : lastPg id pss.flatten with
      | some b => rfl
      | none => simp only [Option.getD_none]; exact imgF_congr fun k hk => (if_pos (by omega)).symm
  rcases run_cases h.ok h.dn hin with ⟨a0, a1⟩ | ⟨a0, a1⟩
  case inr =>
    have e : r = D.run lay := by rw [hr, Disk.run_append, if_neg (by rw [a0]; decide)]
    rw [← e] at a0 a1
    exact .inr ⟨a0, a1.down, a1.ok, a1.len, fun f hf => .inl (hP1 r.1 a1.len a1.poss f hf)⟩
  have hlk1 : ∀ i, i < D.kept.length → (D.run lay).1.look i = (lastW i lay).getD (D.look i) := a1.look
  have hfl1 : (D.run (lay ++ [.F])).2 = 0 → Still (D.run (lay ++ [.F])).1 := fun h0 i s hp => flushed h.ok h.dn hin h0 i s hp
  have e1 : D.run (lay ++ [.F]) = (D.run lay).1.run [.F] := by rw [Disk.run_append, if_pos a0]
  have e2 : r = if (D.run (lay ++ [.F])).2 = 0 then (D.run (lay ++ [.F])).1.run [.W 0 (headB ep all.length), .F] else D.run (lay ++ [.F]) := by rw [hr]; exact run_snoc D lay .F _
  rw [e1] at e2 hfl1
  have hP1' := hP1 (D.run lay).1 a1.len a1.poss
  generalize (D.run lay).1 = D1 at a1 hlk1 hfl1 e2 hP1'
  rcases run_cases (l := [.F]) a1.ok a1.down (by intro a ha; rw [List.mem_singleton.1 ha]; trivial) with ⟨b0, b1⟩ | ⟨b0, b1⟩
  case inr =>
    rw [if_neg (by rw [b0]; decide)] at e2
    rw [← e2] at b0 b1
    refine .inr ⟨b0, b1.down, b1.ok, b1.len.trans a1.len, fun f hf => .inl (hP1' f (cont_mono b1.len (fun i s hi hp => ?_) hf))⟩
    rcases b1.poss i s hi hp with h1 | ⟨t, ht, _⟩
    · exact h1
    · have h2 := List.mem_singleton.1 ht; cases h2
  rw [if_pos b0] at e2
  have hst2 := hfl1 b0
  have hlk2 : ∀ i, i < D.kept.length → (D1.run [.F]).1.look i = (lastW i lay).getD (D.look i) := fun i hi => by
    rw [← hlk1 i hi]; exact b1.look i (by rw [a1.len]; exact hi)
  have hfnd2 : FoundF (D1.run [.F]).1.look log ep cnt pss W := hP1' _ (cont_mono b1.len (fun i s hi hp => by
    rcases b1.poss i s hi hp with h1 | ⟨t, ht, _⟩
    · exact h1
    · have h2 := List.mem_singleton.1 ht; cases h2) (cont_look _))
  generalize (D1.run [.F]).1 = D2 at b1 e2 hst2 hlk2 hfnd2
  have hl2 : D2.kept.length = D.kept.length := b1.len.trans a1.len
  have hlow2 : ∀ q, 64 * q < all.length → D2.look (1 + q) = if bytes.length / 64 ≤ q then pad ((all.drop (64 * q)).take 64) else D.look (1 + q) := fun q hq => by
    rw [hlk2 (1 + q) (by omega), hlay, layActs_eq]
    by_cases hb : bytes.length / 64 ≤ q
    · rw [if_pos hb]
      have h1 := lastW_lay (bytes.length / 64) all (q - bytes.length / 64) ((all.length + 63) / 64 - bytes.length / 64)
      rw [show bytes.length / 64 + (q - bytes.length / 64) = q from by omega, if_pos (by omega)] at h1
      rw [h1]; rfl
    · rw [if_neg hb, lastW_none fun t ht => ?_]
      · rfl
      · rw [← layActs_eq] at ht
        obtain ⟨j, _, hij, _⟩ := mem_lay ht
        omega
  have hhigh2 : ∀ i, log ≤ i → i < D.kept.length → D2.look i = D.look i := fun i hi hi2 => by
    rw [hlk2 i hi2, lastW_none fun t ht => ?_]
    · rfl
    · rw [hlay] at ht
      obtain ⟨j, hj, hij, _⟩ := mem_lay ht
      omega
  have hlen2 : ∀ j, 1 + j < log → (D2.look (1 + j)).length = 64 := fun j hj => cont_len b1.ok (cont_look D2) (1 + j) (by omega)
  have hsec2 : SecE D2.look all := fun i hi => by
    rw [hlow2 (i / 64) (by omega)]
    by_cases hb : bytes.length / 64 ≤ i / 64
    · rw [if_pos hb, slice_get all (i / 64) (i % 64) (by omega) (by omega), show 64 * (i / 64) + i % 64 = i from by omega]
    · rw [if_neg hb]
      have hib : i < bytes.length := by omega
      rcases hD0.lg with ⟨_, _, h3⟩ | ⟨_, _, _, _, h5⟩
      · rw [hby, h3] at hib; exact absurd hib (by show ¬ (i < 0); omega)
      · have hg := (secs_iff (b := framesB (pss.map recB)) fun j hj => hlk0 j (by rw [hby] at hfit; omega)).1 h5
        rw [hg i (by rw [← hby]; exact hib), ← hby, hall, List.getElem?_append_left hib]
  -- what may be there once the head is written
  have hnew : ∀ f : Nat → Bs, f 0 = headB ep all.length → (∀ i, 0 < i → i < D.kept.length → f i = D2.look i) → FoundF f log ep cnt (pss ++ [J]) (addPg J W) := fun f h0 hf => by
    refine found_new hfnd2 hJ hz hep (by rw [hall2]; exact h0) (by rw [hall2]; omega) (fun j hj => ?_) ?_ fun id k hid hk _ _ => ?_
    · rw [hf _ (by omega) (by omega)]; exact hlen2 j hj
    · rw [hall2]
      intro i hi
      rw [hf _ (by omega) (by omega)]; exact hsec2 i hi
    · exact hf _ (by have := h.log2; omega) (by omega)
  rcases run_cases (l := [.W 0 (headB ep all.length)]) b1.ok b1.down (by intro a ha; rw [List.mem_singleton.1 ha, hl2]; exact ⟨hn, by omega⟩) with ⟨c0, c1⟩ | ⟨c0, c1⟩
  all_goals
    have hone : ∀ D', D'.kept.length = D2.kept.length → (∀ i s, i < D2.kept.length → D'.poss i s → D2.poss i s ∨ ∃ t, .W i t ∈ [DAct.W 0 (headB ep all.length)] ∧ s = pad t) → ∀ f, Cont D' f → FoundEither f log ep cnt pss J W := by
      intro D' hl' hp f hf
      have hc : ∀ i, i < D.kept.length → f i = D2.look i ∨ (i = 0 ∧ f i = headB ep all.length) := fun i hi => by
        rcases hp i (f i) (by rw [hl2]; exact hi) (hf i (by rw [hl', hl2]; exact hi)) with h1 | ⟨t, ht, hs⟩
        · exact .inl (hst2 i _ h1)
        · have h2 := List.mem_singleton.1 ht
          injection h2 with h3 h4
          subst h4
          exact .inr ⟨h3, by rw [hs, hpad]⟩
      have hoth : ∀ i, 0 < i → i < D.kept.length → f i = D2.look i := fun i hi0 hi => by
        rcases hc i hi with h1 | ⟨h1, _⟩
        · exact h1
        · omega
      rcases hc 0 hn with h1 | ⟨_, h1⟩
      · refine .inl (found_pages (n := log) hfnd2 (by have := h.log2; omega) (fun i hi => ?_) (fun id k hid hk _ => hoth _ (by have := h.log2; omega) (by omega)) rfl)
        by_cases hi0 : i = 0
        · subst hi0; exact h1
        · exact hoth i (by omega) (by omega)
      · exact .inr (hnew f h1 hoth)
  case inr =>
    have e3 : r = D2.run [.W 0 (headB ep all.length)] := by
      rw [e2]
      show D2.run ([.W 0 (headB ep all.length)] ++ [.F]) = _
      rw [Disk.run_append, if_neg (by rw [c0]; decide)]
    rw [← e3] at c0 c1
    exact .inr ⟨c0, c1.down, c1.ok, c1.len.trans hl2, hone r.1 c1.len c1.poss⟩
  have e3 : r = (D2.run [.W 0 (headB ep all.length)]).1.run [.F] := by
    rw [e2]
    show D2.run ([.W 0 (headB ep all.length)] ++ [.F]) = _
    rw [Disk.run_append, if_pos c0]
  have hfl4 := flushed (l := [.W 0 (headB ep all.length)]) b1.ok b1.down (by intro a ha; rw [List.mem_singleton.1 ha, hl2]; exact ⟨hn, by omega⟩)
  have hone' := hone (D2.run [.W 0 (headB ep all.length)]).1 c1.len c1.poss
  have e4 : D2.run ([.W 0 (headB ep all.length)] ++ [.F]) = r := by rw [e2]; rfl
  rw [e4] at hfl4
  generalize (D2.run [.W 0 (headB ep all.length)]).1 = D3 at c1 e3 hone'
  rcases run_cases (l := [.F]) c1.ok c1.down (by intro a ha; rw [List.mem_singleton.1 ha]; trivial) with ⟨d0, d1⟩ | ⟨d0, d1⟩
  · rw [← e3] at d0 d1
    have hl4 : r.1.kept.length = D.kept.length := d1.len.trans (c1.len.trans hl2)
    have hst4 : Still r.1 := hfl4 d0
    have hlk4 : ∀ i, i < D.kept.length → r.1.look i = if i = 0 then headB ep all.length else D2.look i := fun i hi => by
      have h1 : r.1.look i = D3.look i := d1.look i (by rw [c1.len, hl2]; exact hi)
      rw [h1, c1.look i (by rw [hl2]; exact hi)]
      by_cases hi0 : i = 0
      · subst hi0; simp [lastW, hpad]
      · have : ¬ (0 = i) := fun e => hi0 e.symm
        simp [lastW, this, hi0]
    refine .inl ⟨d0, d1.ok, d1.down, hl4, fun f hf => ?_, fun i hi hi2 => ?_⟩
    · have hfe : ∀ i, i < D.kept.length → f i = r.1.look i := fun i hi => still_cont hst4 hf i (by rw [hl4]; exact hi)
      exact hnew f (by rw [hfe 0 hn, hlk4 0 hn]; rfl) fun i hi0 hi => by rw [hfe i hi, hlk4 i hi, if_neg (by omega)]
    · rw [hlk4 i hi2, if_neg (by have := h.log2; omega)]; exact hhigh2 i hi hi2
  · rw [← e3] at d0 d1
    refine .inr ⟨d0, d1.down, d1.ok, d1.len.trans (c1.len.trans hl2), fun f hf => hone' f (cont_mono d1.len (fun i s hi hp => ?_) hf)⟩
    rcases d1.poss i s hi hp with h1 | ⟨t, ht, _⟩
    · exact h1
    · have h2 := List.mem_singleton.1 ht; cases h2
end Go.Proofs.YthbbammibdhohaaGreatDoor

namespace Go.Proofs.YthbbammibdhohaaGreatDoor
open Go.RowKit Aq Go.Rgn Go.Maps

theorem Shut.below {w w' : World} {v : Value} (h : Shut w v) (hb : ∀ (k : Nat) (o : Obj), w.heap[k]? = some o → w'.heap[k]? = some o) : Shut w' v := by
  have hc : ∀ p v, w.cell? p = some v → w'.cell? p = some v := by
    intro p v hp
    unfold World.cell? at hp ⊢
    cases ho : w.heap[p.block]? with
    | none => rw [ho] at hp; cases hp
    | some o => rw [hb _ _ ho]; rw [ho] at hp; exact hp
  rcases h with rfl | ⟨t, rfl, h0 | ⟨x, y, h0, h1, rfl | ⟨u, rfl, hne, cu, ct, hu, ht⟩⟩⟩
  · exact .inl rfl
  · exact .inr ⟨t, rfl, .inl (hc _ _ h0)⟩
  · exact .inr ⟨t, rfl, .inr ⟨x, _, hc _ _ h0, hc _ _ h1, .inl rfl⟩⟩
  · exact .inr ⟨t, rfl, .inr ⟨x, _, hc _ _ h0, hc _ _ h1, .inr ⟨u, rfl, hne, cu, ct, hb _ _ hu, hb _ _ ht⟩⟩⟩
theorem Shut.of_below {w w' : World} {v : Value} (h : Shut w v) (hb : Below w.heap.size w w') : Shut w' v := h.below fun k _ hk => (hb.block k (lt_of_some hk)).trans hk
set_option maxHeartbeats 1000000 in
set_option maxRecDepth 100000 in
theorem tx_there_shut {w : World} {v : Value} (h : Shut w v) (id : Int) : Calls Tryz.prog 52 #[v, .int .i64 id] w (LeafPost w ((0, []), 1)) := by
  have hb0 : Below w.heap.size w (w.alloc (.cells #[.int .i64 0, .string ⟨#[]⟩] 101)) := (Below.refl _ w).alloc (Nat.le_refl _) _
  have hup := tx_up_shut (h.of_below hb0)
  clear h hb0
  go_enter Tryz.func52, Tryz.ntmps52
  go_wp2_with (first
    | (go_at_call 53; refine hup.mono ?_; rintro e w' ⟨rfl, rfl⟩))
  exact leaf_ret 4 5 w.heap.size (0, []) 1 rfl rfl rfl (heap_alloc_new w _) rfl ⟨rfl, (Below.refl _ w).alloc (Nat.le_refl _) _⟩
def PgPost (w : World) (r : Lf × Int) (e : Ending) (w' : World) : Prop := e = .returned (.tuple #[int' r.1.1, tx r.1.2, .int .i64 r.2]) ∧ Below w.heap.size w w'
theorem thereS_code (V : Nat → Lf) (tm : Meta) (l : List (Nat × Lf)) (id : Int) : (thereS V tm l id).2 = 0 ∨ ((thereS V tm l id).1 = (0, []) ∧ ((thereS V tm l id).2 = 2 ∨ (thereS V tm l id).2 = 8)) := by
  unfold thereS
  split
  · exact .inr ⟨rfl, .inr rfl⟩
  · unfold getS
    split
    · exact .inr ⟨rfl, .inl rfl⟩
    · exact .inl rfl
theorem txr_of {w : World} {v : Value} {id : Int} {r : Lf × Int} (hc : r.2 = 0 ∨ (r.1 = (0, []) ∧ r.2 ≠ 0)) (h : Calls Tryz.prog 52 #[v, .int .i64 id] w (LeafPost w r)) :
    Calls Tryz.prog 18 #[v, .int .i64 id] w (PgPost w r) := by
  obtain ⟨⟨k, b⟩, c⟩ := r
  have h2 : Calls Tryz.prog 52 #[v, .int .i64 id] w fun e w' => e = .returned (.tuple #[.agg #[int' k, tx b], .int .i64 c]) ∧ Below w.heap.size w w' := h
  clear h
  by_cases h0 : c = 0
  · subst h0
    clear hc
    go_enter Tryz.func18, Tryz.ntmps18
    go_wp2_with (first
      | (go_at_call 52; go_must (refine h2.mono ?_; rintro e w1 ⟨rfl, hb1⟩; have HB1 := Lib.hid hb1; clear hb1)))
    go_quiet (fail)
    go_wp2
    go_ret3
    exact ⟨rfl, ((HB1.out.alloc HB1.out.size _)).trans ⟨rfl, rfl, rfl, Nat.le_refl _, fun _ _ => rfl⟩⟩
  · have hb : (c != 0) = true := by simpa using h0
    have hkb : k = 0 ∧ b = [] := by
      rcases hc with hc | hc
      · exact absurd hc h0
      · have := hc.1; simp only [Prod.mk.injEq] at this; exact this
    obtain ⟨rfl, rfl⟩ := hkb
    clear hc
    go_enter Tryz.func18, Tryz.ntmps18
    go_wp2_with (first
      | (go_at_call 52; go_must (refine h2.mono ?_; rintro e w1 ⟨rfl, hb1⟩; have HB1 := Lib.hid hb1; clear hb1)))
    go_ret3
    exact ⟨rfl, HB1.out.alloc HB1.out.size _⟩
theorem tx_Read {B C : Nat} {w : World} {t mb x db p log : Nat} {m tm : Meta} {mk sp : Bool} {l : List (Nat × Lf)} {D : Disk} (h : TxNow B C w t mb x db p log m tm mk sp l D) (V : Nat → Lf) (hon : TxOn D log V tm l) (hhi : tm.high < 2147483648) (id : Int)
    (hH : HalfAt w) (hB : 0 < w.heap.size) :
    Calls Tryz.prog 18 #[.pointer (some ⟨t, 0, none⟩), .int .i64 id] w (PgPost w (thereS V tm l id)) :=
  txr_of ((thereS_code V tm l id).imp (fun h => h) fun h => ⟨h.1, by rcases h.2 with h | h <;> rw [h] <;> decide⟩) (tx_there h V hon hhi id hH hB)
theorem tx_Read_shut {w : World} {v : Value} (h : Shut w v) (id : Int) : Calls Tryz.prog 18 #[v, .int .i64 id] w (PgPost w ((0, []), 1)) := txr_of (.inr ⟨rfl, by decide⟩) (tx_there_shut h id)
def ErrPost (w : World) (c : Int) (e : Ending) (w' : World) : Prop := e = .returned (.int .i64 c) ∧ Below w.heap.size w w'
set_option maxHeartbeats 1000000 in
set_option maxRecDepth 100000 in
theorem txw_no {w : World} {v : Value} {id : Int} {r : Lf × Int} (hc : r.2 ≠ 0) (h : Calls Tryz.prog 52 #[v, .int .i64 id] w (LeafPost w r)) (k : Int) (s : ByteArray) :
    Calls Tryz.prog 22 #[v, .int .i64 id, .int .i64 k, .string s] w (ErrPost w r.2) := by
  obtain ⟨⟨q, b⟩, c⟩ := r
  have h2 : Calls Tryz.prog 52 #[v, .int .i64 id] w fun e w' => e = .returned (.tuple #[.agg #[int' q, tx b], .int .i64 c]) ∧ Below w.heap.size w w' := h
  clear h
  have h0 : c ≠ 0 := hc
  have hb : (c != 0) = true := by simpa using h0
  clear hc
  go_enter Tryz.func22, Tryz.ntmps22
  go_wp2_with (first
    | (go_at_call 52; go_must (refine h2.mono ?_; rintro e w1 ⟨rfl, hb1⟩; have HB1 := Lib.hid hb1; clear hb1)))
  go_ret
  exact ⟨rfl, HB1.out.alloc HB1.out.size _⟩
/-- what a write answers, where the page is there -/
def writeE (k : Int) (n : Nat) : Int := if k < 1 ∨ 255 ≤ k then 2 else if 500 < n then 3 else 0
set_option maxHeartbeats 1000000 in
set_option maxRecDepth 100000 in
theorem txw_err {w : World} {v : Value} {id : Int} {r : Lf × Int} (hc : r.2 = 0) (h : Calls Tryz.prog 52 #[v, .int .i64 id] w (LeafPost w r)) (k : Int) (s : ByteArray) (hs : s.size ≤ 9223372036854775807) (hw : writeE k s.size ≠ 0) :
    Calls Tryz.prog 22 #[v, .int .i64 id, .int .i64 k, .string s] w (ErrPost w (writeE k s.size)) := by
  obtain ⟨⟨q, b⟩, c⟩ := r
  have h2 : Calls Tryz.prog 52 #[v, .int .i64 id] w fun e w' => e = .returned (.tuple #[.agg #[int' q, tx b], .int .i64 c]) ∧ Below w.heap.size w w' := h
  clear h
  have h0 : c = 0 := hc
  subst h0
  clear hc
  by_cases h1 : k < 1
  · rw [show writeE k s.size = 2 from by unfold writeE; rw [if_pos (.inl h1)]]
    clear hw
    go_enter Tryz.func22, Tryz.ntmps22
    go_wp2_with (first
      | (go_at_call 52; go_must (refine h2.mono ?_; rintro e w1 ⟨rfl, hb1⟩; have HB1 := Lib.hid hb1; clear hb1)))
    go_ret
    exact ⟨rfl, HB1.out.alloc HB1.out.size _⟩
  by_cases h3 : 255 ≤ k
  · rw [show writeE k s.size = 2 from by unfold writeE; rw [if_pos (.inr h3)]]
    clear hw
    go_enter Tryz.func22, Tryz.ntmps22
    go_wp2_with (first
      | (go_at_call 52; go_must (refine h2.mono ?_; rintro e w1 ⟨rfl, hb1⟩; have HB1 := Lib.hid hb1; clear hb1)))
    go_ret
    exact ⟨rfl, HB1.out.alloc HB1.out.size _⟩
  have e1 : writeE k s.size = if 500 < s.size then 3 else 0 := by unfold writeE; rw [if_neg (by omega)]
  have h4 : 500 < s.size := by
    rw [e1] at hw
    by_cases h : 500 < s.size
    · exact h
    · rw [if_neg h] at hw; exact absurd rfl hw
  rw [e1, if_pos h4]
  have h5 : (500 : Int) < (s.size : Int) := by omega
  clear hw e1 h4
  go_enter Tryz.func22, Tryz.ntmps22
  go_wp2_with (first
    | (go_at_call 52; go_must (refine h2.mono ?_; rintro e w1 ⟨rfl, hb1⟩; have HB1 := Lib.hid hb1; clear hb1)))
  go_ret
  exact ⟨rfl, HB1.out.alloc HB1.out.size _⟩
set_option maxHeartbeats 1000000 in
set_option maxRecDepth 100000 in
theorem tx_Write {B C : Nat} {w : World} {t mb x db p log : Nat} {m tm : Meta} {mk sp : Bool} {l : List (Nat × Lf)} {D : Disk} (h : TxNow B C w t mb x db p log m tm mk sp l D) (V : Nat → Lf) (hon : TxOn D log V tm l) (hhi : tm.high < 2147483648) (id : Int)
    (hH : HalfAt w) (hB : 0 < w.heap.size) (hC : C ≤ w.heap.size) (hl : l.length < 2147483648) (ht : (thereS V tm l id).2 = 0) (k : Int) (s : ByteArray) (hw : writeE k s.size = 0) :
    Calls Tryz.prog 22 #[.pointer (some ⟨t, 0, none⟩), .int .i64 id, .int .i64 k, .string s] w (TurnPost B C w t mb x db p log m tm mk sp (putL id.toNat (k.toNat, s.data.toList) l) D (.int .i64 0)) := by
  have hth := tx_there h V hon hhi id hH hB
  have hid : ∃ i : Nat, id = (i : Int) ∧ i < 2147483648 := by
    unfold thereS at ht
    split at ht
    · cases ht
    · unfold getS at ht
      split at ht
      · cases ht
      · exact ⟨id.toNat, by omega, by omega⟩
  obtain ⟨i, rfl, hi⟩ := hid
  obtain ⟨⟨⟨q, b⟩, c⟩, hr⟩ : ∃ r, r = thereS V tm l (i : Int) := ⟨_, rfl⟩
  rw [← hr] at hth ht
  have h0 : c = 0 := ht
  subst h0
  have h2 : Calls Tryz.prog 52 #[.pointer (some ⟨t, 0, none⟩), .int .i64 (i : Int)] w fun e w' => e = .returned (.tuple #[.agg #[int' q, tx b], .int .i64 0]) ∧ Below w.heap.size w w' := hth
  have hk : 1 ≤ k ∧ k < 255 := by
    unfold writeE at hw; split at hw
    · cases hw
    · omega
  have hs : s.size ≤ 500 := by
    unfold writeE at hw; rw [if_neg (by omega)] at hw; split at hw
    · cases hw
    · omega
  obtain ⟨n, rfl⟩ : ∃ n : Nat, k = (n : Int) := ⟨k.toNat, by omega⟩
  have g1 : ¬ ((n : Int) < 1) := by omega
  have g2 : ¬ ((255 : Int) ≤ (n : Int)) := by omega
  have g3 : ¬ ((500 : Int) < (s.size : Int)) := by omega
  have H := Lib.hid h
  have t8 : ∀ w1, Below w.heap.size w w1 → w1.cell? ⟨t, 8, none⟩ = some (.map (some mb)) := fun w1 hb => (H.out.below hb).tx.c8
  have HT8 := Lib.hid t8
  clear h hth hon hH hw hk hs hr t8
  simp only [Int.toNat_natCast]
  go_enter Tryz.func22, Tryz.ntmps22
  go_wp2_with (first
    | (go_at_call 52; go_must (refine h2.mono ?_; rintro e w1 ⟨rfl, hb1⟩; have h18 := HT8.out _ (hb1.alloc hb1.size (.cells #[int' q, tx b] 101)); have HB1 := Lib.hid hb1; clear hb1))
    | (at_mapUpdate; go_must (refine wpList_put_leaf rfl (.tmp 34) (.tmp 35) (.tmp 38) rfl mb l rfl ((H.out.below (HB1.out.alloc HB1.out.size _)).tx.map) i hi rfl (n, s.data.toList) (congrArg (fun v => Value.agg #[int' n, v]) (str_tx s)) hl ?_; intro w2 hm2 ht2; have HM2 := Lib.hid hm2; have HT2 := Lib.hid ht2; clear hm2 ht2)))
  go_ret
  have hb2 := HB1.out.alloc HB1.out.size (.cells #[int' q, tx b] 101)
  have hN := H.out.below hb2
  have hu : Upd C txT (w1.alloc (.cells #[int' q, tx b] 101)) w2 := turned_upd HT2.out hN.tx.hmb rfl
  have hh := (HT2.out.grown.block t (lt_of_some hN.tx.head) (fun e => hN.tx.ne (by injection e))).trans hN.tx.head
  have htx : TxIs C w2 t x mb tm mk sp (putL i (n, s.data.toList) l) := ⟨hN.tx.ht, hN.tx.hmb, hh, HM2.out⟩
  exact ⟨rfl, hN.turn hu htx, (Upd.of_below hb2).trans hu⟩
end Go.Proofs.YthbbammibdhohaaGreatDoor

namespace Go.Proofs.YthbbammibdhohaaGreatDoor
open Go.RowKit Aq Go.Rgn Go.Maps

theorem TxIs.turned {C : Nat} {w w' : World} {t x mb : Nat} {m : Meta} {mk sp : Bool} {l l' : List (Nat × Lf)} (h : TxIs C w t x mb m mk sp l) (ht : w.mapTurned w' mb) (hm : LeafMap w' mb l') : TxIs C w' t x mb m mk sp l' :=
  ⟨h.ht, h.hmb, (ht.grown.block t (lt_of_some h.head) (fun e => h.ne (by injection e))).trans h.head, hm⟩
set_option maxHeartbeats 400000 in
set_option maxRecDepth 100000 in
theorem tx_Alloc_shut {w : World} {v : Value} (h : Shut w v) : Calls Tryz.prog 21 #[v] w fun e w' => e = .returned (.tuple #[.int .i64 0, .int .i64 1]) ∧ w = w' := by
  have hup := tx_up_shut h
  clear h
  go_enter Tryz.func21, Tryz.ntmps21
  go_wp2_with (first
    | (go_at_call 53; refine hup.mono ?_; rintro e w' ⟨rfl, rfl⟩))
  go_ret2
  exact ⟨rfl, rfl⟩
def FullPost (w : World) (e : Ending) (w' : World) : Prop := e = .returned (.tuple #[.int .i64 0, .int .i64 7]) ∧ Below w.heap.size w w'
set_option maxHeartbeats 1000000 in
set_option maxRecDepth 100000 in
theorem tx_Alloc_full {B C : Nat} {w : World} {t mb x db p log : Nat} {m tm : Meta} {mk sp : Bool} {l : List (Nat × Lf)} {D : Disk} (h : TxNow B C w t mb x db p log m tm mk sp l D) (hlog : log ≤ D.kept.length) (hf : tm.free = 0) (hc : tm.high = (D.kept.length - log) / 8) :
    Calls Tryz.prog 21 #[.pointer (some ⟨t, 0, none⟩)] w (FullPost w) := by
  have hup := h.up
  have t0 := h.tx.c0; have t5 := h.tx.c5; have t6 := h.tx.c6
  rw [hf] at t6
  have t6' : w.cell? ⟨t, 6, none⟩ = some (.int .i64 0) := t6
  obtain ⟨c, hcc⟩ : ∃ c, c = (D.kept.length - log) / 8 := ⟨_, rfl⟩
  have hcq : ∀ n, Calls Tryz.prog 24 #[.pointer (some ⟨x, 0, none⟩)] (w.drewN n) fun e w' => e = .returned (.int .i64 (c : Int)) ∧ ∃ k, w' = (w.drewN n).drewN k := fun n => by
    have h := db_Count_q (w := w.drewN n) (h.dbi.keep (Below.sees ⟨rfl, rfl, rfl, Nat.le_refl _, fun _ _ => rfl⟩)) (h.disk.keep (Below.sees ⟨rfl, rfl, rfl, Nat.le_refl _, fun _ _ => rfl⟩)) hlog
    rw [← hcc] at h
    exact h
  rw [← hcc] at hc
  rw [hc] at t5
  clear h hf t6 hc hcc
  go_enter Tryz.func21, Tryz.ntmps21
  go_wp2_with (first
    | (go_at_call 53; refine hup.mono ?_; rintro e w' ⟨rfl, rfl⟩))
  go_quiet (first | (go_at_call 24; exact Calls.quiet_of (hcq _)))
  go_wp2
  go_ret2
  exact ⟨rfl, rfl, rfl, rfl, Nat.le_refl _, fun _ _ => rfl⟩
set_option maxHeartbeats 1000000 in
set_option maxRecDepth 100000 in
theorem tx_Alloc_new {B C : Nat} {w : World} {t mb x db p log : Nat} {m tm : Meta} {mk sp : Bool} {l : List (Nat × Lf)} {D : Disk} (h : TxNow B C w t mb x db p log m tm mk sp l D) (hlog : log ≤ D.kept.length) (hf : tm.free = 0) (hc : tm.high < (D.kept.length - log) / 8) (hl : l.length < 2147483648) (hh0 : tm.high < 2147483648) :
    Calls Tryz.prog 21 #[.pointer (some ⟨t, 0, none⟩)] w (TurnPost B C w t mb x db p log m { tm with high := tm.high + 1 } true sp (putL tm.high (1, []) l) D (.tuple #[int' tm.high, .int .i64 0])) := by
  have hup := h.up
  have t0 := h.tx.c0; have t5 := h.tx.c5; have t6 := h.tx.c6; have t8 := h.tx.c8; have t9 := h.tx.c9
  have f5 := h.tx.fr 5; have f9 := h.tx.fr 9
  rw [hf] at t6
  have t6' : w.cell? ⟨t, 6, none⟩ = some (.int .i64 0) := t6
  obtain ⟨c, hcc⟩ : ∃ c, c = (D.kept.length - log) / 8 := ⟨_, rfl⟩
  have hcq : ∀ n, Calls Tryz.prog 24 #[.pointer (some ⟨x, 0, none⟩)] (w.drewN n) fun e w' => e = .returned (.int .i64 (c : Int)) ∧ ∃ k, w' = (w.drewN n).drewN k := fun n => by
    have h := db_Count_q (w := w.drewN n) (h.dbi.keep (Below.sees ⟨rfl, rfl, rfl, Nat.le_refl _, fun _ _ => rfl⟩)) (h.disk.keep (Below.sees ⟨rfl, rfl, rfl, Nat.le_refl _, fun _ _ => rfl⟩)) hlog
    rw [← hcc] at h
    exact h
  rw [← hcc] at hc
  have hm : D.kept.length ≤ 65536 := by obtain ⟨kb, pv, dn, hd⟩ := h.disk; exact hd.ok.most
  have g1 : ((tm.high : Int) == (c : Int)) = false := by simp; omega
  have g2 : ¬ (tm.high : Int) = (c : Int) := by omega
  have g3 : (tm.high : Int) ≤ 65536 := by omega
  have H := Lib.hid h
  have hone : (Value.agg #[.int .i64 1, .string ⟨#[]⟩]) = leafV (1, []) := rfl
  clear h hf t6 hc hcc
  go_enter Tryz.func21, Tryz.ntmps21
  go_wp2_with (first
    | (go_at_call 53; refine hup.mono ?_; rintro e w' ⟨rfl, rfl⟩))
  go_quiet (first | (go_at_call 24; exact Calls.quiet_of (hcq _)))
  have hn1 : ∀ n, TxNow B C (w.drewN n) t mb x db p log m tm mk sp l D := fun n => H.out.below ⟨rfl, rfl, rfl, Nat.le_refl _, fun _ _ => rfl⟩
  have k1 : ∀ n, TxIs C ((w.drewN n).setCell ⟨t, 5, none⟩ (.int .i64 ((tm.high : Int) + 1))) t x mb { tm with high := tm.high + 1 } mk sp l := fun n => (hn1 n).tx.field 5 _ rfl
  have k2 : ∀ n, TxIs C (((w.drewN n).setCell ⟨t, 5, none⟩ (.int .i64 ((tm.high : Int) + 1))).setCell ⟨t, 9, none⟩ (.bool true)) t x mb { tm with high := tm.high + 1 } true sp l := fun n => (k1 n).field 9 _ rfl
  have u2 : ∀ n, Upd C txT w (((w.drewN n).setCell ⟨t, 5, none⟩ (.int .i64 ((tm.high : Int) + 1))).setCell ⟨t, 9, none⟩ (.bool true)) := fun n => (k1 n).upd ((hn1 n).tx.upd ((Upd.refl C txT w).drewN n) rfl 5 _) rfl 9 _
  have K2 := Lib.hid k2; have U2 := Lib.hid u2
  clear hn1 k1 k2 u2 hcq
  go_wp2_with (first
    | (at_mapUpdate; go_must (refine wpList_put_leaf rfl (.tmp 78) (.tmp 79) (.tmp 80) rfl mb l rfl ((K2.out _).map) tm.high hh0 rfl (1, []) rfl hl ?_; intro w2 hm2 ht2; have HM2 := Lib.hid hm2; have HT2 := Lib.hid ht2; clear hm2 ht2)))
  go_ret2
  have hu := (U2.out nq).trans (turned_upd (T := txT) HT2.out (K2.out nq).hmb rfl)
  exact ⟨rfl, H.out.turn hu ((K2.out nq).turned HT2.out HM2.out), hu⟩
set_option maxHeartbeats 1000000 in
set_option maxRecDepth 100000 in
theorem tx_Alloc_free {B C : Nat} {w : World} {t mb x db p log : Nat} {m tm : Meta} {mk sp : Bool} {l : List (Nat × Lf)} {D : Disk} (h : TxNow B C w t mb x db p log m tm mk sp l D) (V : Nat → Lf) (hon : TxOn D log V tm l) (hhi : tm.high < 2147483648)
    (hH : HalfAt w) (hB : 0 < w.heap.size) (hf1 : 1 ≤ tm.free) (hf2 : tm.free < tm.high) (nx : Nat) (hnx : nx < 2147483648) (hs : seeL V l tm.free = (255, num nx 4)) (hct : 1 ≤ tm.count) (hct2 : tm.count < 2147483648) (hl : l.length < 2147483648) :
    Calls Tryz.prog 21 #[.pointer (some ⟨t, 0, none⟩)] w (TurnPost B C w t mb x db p log m { tm with free := nx, count := tm.count - 1 } true sp (putL tm.free (1, []) l) D (.tuple #[int' tm.free, .int .i64 0])) := by
  have hup := h.up
  have t6 := h.tx.c6
  have hget := tx_get h V hon hhi (tm.free : Int) hH hB
  have hgs : getS V tm l (tm.free : Int) = ((255, num nx 4), 0) := by unfold getS; rw [if_neg (by omega), Int.toNat_natCast, hs]
  rw [hgs] at hget
  have hval : ∀ w1, Calls Tryz.prog 60 #[tx (num nx 4)] w1 fun e w' => e = .returned (int' nx) ∧ ∃ n, w' = w1.drewN n := fun w1 => by
    have h := pagedb_value w1 ⟨(num nx 4).toArray⟩ (by show 4 ≤ (num nx 4).length; rw [num_len]; exact Nat.le_refl _)
    rw [show (⟨(num nx 4).toArray⟩ : ByteArray).data.toList = num nx 4 from rfl, List.take_of_length_le (by rw [num_len]; exact Nat.le_refl _), val_num 4 _ (by omega)] at h
    exact h
  obtain ⟨z, hz⟩ : ∃ z, z = num nx 4 := ⟨_, rfl⟩
  rw [← hz] at hget hval
  have hget2 : Calls Tryz.prog 59 #[.pointer (some ⟨t, 0, none⟩), .int .i64 (tm.free : Int)] w fun e w' => e = .returned (.tuple #[.agg #[.int .i64 255, tx z], .int .i64 0]) ∧ Below w.heap.size w w' := hget
  have g1 : (0 : Int) < (tm.free : Int) := by omega
  have g2 : (1 : Int) ≤ (tm.count : Int) := by omega
  have g3 : (tm.count : Int) ≤ 2147483647 := by omega
  have hcv : (Value.int .i64 ((tm.count : Int) - 1)) = int' (tm.count - 1) := congrArg (Value.int .i64) (by omega)
  have HCV : Hid ((Value.int .i64 ((tm.count : Int) - 1)) = int' (tm.count - 1)) := hcv
  have H := Lib.hid h
  have hfacts : ∀ w1, Below w.heap.size w w1 → w1.cell? ⟨t, 6, none⟩ = some (int' tm.free) ∧ w1.cell? ⟨t, 7, none⟩ = some (int' tm.count) ∧ w1.cell? ⟨t, 8, none⟩ = some (.map (some mb)) ∧ w1.cell? ⟨t, 9, none⟩ = some (.bool mk) ∧ w1.frozen? ⟨t, 6, none⟩ = false ∧ w1.frozen? ⟨t, 7, none⟩ = false ∧ w1.frozen? ⟨t, 9, none⟩ = false ∧ t < w1.heap.size := fun w1 hb =>
    ⟨(H.out.below hb).tx.c6, (H.out.below hb).tx.c7, (H.out.below hb).tx.c8, (H.out.below hb).tx.c9, (H.out.below hb).tx.fr 6, (H.out.below hb).tx.fr 7, (H.out.below hb).tx.fr 9, lt_of_some (H.out.below hb).tx.head⟩
  have HF := Lib.hid hfacts
  have K3 : Hid (∀ w1, Below w.heap.size w w1 → ∀ n2, TxIs C (((((w1.alloc (.cells #[.int .i64 255, tx z] 101)).drewN n2).setCell ⟨t, 6, none⟩ (int' nx)).setCell ⟨t, 7, none⟩ (.int .i64 ((tm.count : Int) - 1))).setCell ⟨t, 9, none⟩ (.bool true)) t x mb { tm with free := nx, count := tm.count - 1 } true sp l ∧
      Upd C txT w (((((w1.alloc (.cells #[.int .i64 255, tx z] 101)).drewN n2).setCell ⟨t, 6, none⟩ (int' nx)).setCell ⟨t, 7, none⟩ (.int .i64 ((tm.count : Int) - 1))).setCell ⟨t, 9, none⟩ (.bool true))) := fun w1 hb1 n2 => by
    have hb : Below w.heap.size w ((w1.alloc (.cells #[.int .i64 255, tx z] 101)).drewN n2) := (hb1.alloc hb1.size _).trans ⟨rfl, rfl, rfl, Nat.le_refl _, fun _ _ => rfl⟩
    have hN := (H.out.below hb).tx
    have k1 : TxIs C _ t x mb { tm with free := nx } mk sp l := hN.field 6 (int' nx) rfl
    have k2 : TxIs C _ t x mb { tm with free := nx, count := tm.count - 1 } mk sp l := k1.field 7 (.int .i64 ((tm.count : Int) - 1)) (by rw [HCV.out]; rfl)
    have k3 : TxIs C _ t x mb { tm with free := nx, count := tm.count - 1 } true sp l := k2.field 9 (.bool true) rfl
    exact ⟨k3, k2.upd (k1.upd (hN.upd (.of_below hb) rfl 6 _) rfl 7 _) rfl 9 _⟩
  have hfl : tm.free < 2147483648 := by omega
  clear h hget hon hH hs hgs hz hcv hfacts hf1 hct hct2 hhi hnx
  go_enter Tryz.func21, Tryz.ntmps21
  go_wp2_with (first
    | (go_at_call 53; refine hup.mono ?_; rintro e w' ⟨rfl, rfl⟩)
    | (go_at_call 59; go_must (refine hget2.mono ?_; rintro e w1 ⟨rfl, hb1⟩; obtain ⟨k6, k7, k8, k9, e6, e7, e9, ktl⟩ := HF.out w1 hb1; have HB1 := Lib.hid hb1; clear hb1))
    | (go_at_call 60; go_must (refine (hval _).mono ?_; rintro e w2 ⟨rfl, n2, rfl⟩))
    | (at_mapUpdate; go_must (refine wpList_put_leaf rfl (.tmp 78) (.tmp 79) (.tmp 80) rfl mb l rfl (K3.out w1 HB1.out n2).1.map tm.free hfl rfl (1, []) rfl hl ?_; intro w5 hm5 ht5; have HM5 := Lib.hid hm5; have HT5 := Lib.hid ht5; clear hm5 ht5)))
  go_ret2
  obtain ⟨k3, u3⟩ := K3.out w1 HB1.out n2
  have hu := u3.trans (turned_upd (T := txT) HT5.out k3.hmb rfl)
  exact ⟨rfl, H.out.turn hu (k3.turned HT5.out HM5.out), hu⟩
end Go.Proofs.YthbbammibdhohaaGreatDoor
