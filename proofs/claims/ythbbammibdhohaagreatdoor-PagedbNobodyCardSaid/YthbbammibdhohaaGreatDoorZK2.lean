/- Crash safety: the pages are laid, the log begins anew. No condition. Crash safety: a record is written to the log, and its pages are laid. No condition. Crash safety: a commit, and an opening, whole. No condition. -/
import Derived.Test.YthbbammibdhohaaGreatDoorZT12
set_option linter.unusedSimpArgs false
set_option linter.unusedVariables false
namespace Go.Proofs.YthbbammibdhohaaGreatDoor
open Go.RowKit Aq Go.Rgn

theorem redoAll_flat (log : Nat) (pss : List (List Pg)) : redoAll log pss = redoActs log pss.flatten := by
  induction pss with
  | nil => rfl
  | cons ps pss ih =>
    show redoActs log ps ++ redoAll log pss = _
    rw [ih, List.flatten_cons]
    unfold redoActs
    rw [List.flatMap_append]
def IdsOk (cnt : Nat) (ps : List Pg) : Prop := ∀ x ∈ ps, x.1 < cnt ∧ x.2.length = 512
theorem idsOk_flat {cnt : Nat} {pss : List (List Pg)} (h : ∀ ps ∈ pss, PgsOk cnt ps) : IdsOk cnt pss.flatten := fun x hx => by
  obtain ⟨ps, hps, hx⟩ := List.mem_flatten.1 hx
  exact (h ps hps).ids x hx
theorem mem_redo {log i : Nat} {t : Bs} {ps : List Pg} (h : DAct.W i t ∈ redoActs log ps) : ∃ x ∈ ps, ∃ k, k < 8 ∧ i = log + x.1 * 8 + k ∧ t = sect x.2 k := by
  unfold redoActs at h
  obtain ⟨x, hx, h⟩ := List.mem_flatMap.1 h
  unfold pageActs at h
  obtain ⟨k, hk, h⟩ := List.mem_map.1 h
  have h2 : DAct.W (log + x.1 * 8 + k) (sect x.2 k) = .W i t := h
  injection h2 with h3 h4
  exact ⟨x, hx, k, List.mem_range.1 hk, h3.symm, h4.symm⟩
theorem redo_in {log cnt n : Nat} {ps : List Pg} (h : IdsOk cnt ps) (hr : log + cnt * 8 ≤ n) : ∀ a ∈ redoActs log ps, ActIn n a := by
  intro a ha
  cases a with
  | F => trivial
  | W i t =>
    obtain ⟨x, hx, k, hk, rfl, rfl⟩ := mem_redo ha
    have h1 := h x hx
    exact ⟨by omega, by rw [sect_len h1.2 hk]; exact Nat.le_refl _⟩
theorem lastW_page (log id j k : Nat) (b : Bs) (hb : b.length = 512) (hk : k < 8) : ∀ n, n ≤ 8 → lastW (log + j * 8 + k) ((List.range n).map (pageAct log id b)) = if id = j ∧ k < n then some (sect b k) else none := by
  intro n
  induction n with
  | zero => intro _; simp [lastW]
  | succ n ih =>
    intro hn
    rw [List.range_succ, List.map_append, lastW_append, ih (by omega)]
    have e : lastW (log + j * 8 + k) (List.map (pageAct log id b) [n]) = if log + id * 8 + n = log + j * 8 + k then some (pad (sect b n)) else none := rfl
    rw [e]
    by_cases h1 : log + id * 8 + n = log + j * 8 + k
    · have h2 : id = j ∧ n = k := by omega
      obtain ⟨rfl, rfl⟩ := h2
      have e2 : (if id = id ∧ n < n then some (sect b n) else none) = none := if_neg (by omega)
      rw [if_pos h1, e2, if_pos (by omega), pad_full (sect_len hb (by omega))]; rfl
    · rw [if_neg h1]
      by_cases h3 : id = j ∧ k < n
      · rw [if_pos h3, if_pos ⟨h3.1, by omega⟩]; rfl
      · rw [if_neg h3, if_neg (by omega)]; rfl
theorem lastW_redo (log j k : Nat) (hk : k < 8) : ∀ (ps : List Pg), (∀ x ∈ ps, x.2.length = 512) → lastW (log + j * 8 + k) (redoActs log ps) = (lastPg j ps).map fun b => sect b k := by
  intro ps
  induction ps with
  | nil => intro _; rfl
  | cons x ps ih =>
    intro h
    have e : redoActs log (x :: ps) = pageActs log x.1 x.2 ++ redoActs log ps := rfl
    rw [e, lastW_append, ih (fun y hy => h y (List.mem_cons_of_mem _ hy))]
    unfold pageActs
    rw [lastW_page log x.1 j k x.2 (h x (List.mem_cons_self ..)) hk 8 (Nat.le_refl _)]
    simp only [lastPg]
    cases lastPg j ps with
    | some b => rfl
    | none =>
      by_cases h1 : x.1 = j
      · simp [h1, hk]
      · simp [h1]
/-- what differs only at pages that the log bears is found alike -/
theorem found_pages {f g : Nat → Bs} {log ep cnt n : Nat} {pss : List (List Pg)} {W : Nat → Bs} (h : FoundF g log ep cnt pss W) (hlog : 1 ≤ log) (hlow : ∀ i, i < log → f i = g i)
    (hpg : ∀ id k, id < cnt → k < 8 → lastPg id pss.flatten = none → f (log + id * 8 + k) = g (log + id * 8 + k)) (hn : n = log) : FoundF f log ep cnt pss W := by
  subst hn
  refine ⟨?_, h.ok, fun id hid => ?_⟩
  · rcases h.lg with ⟨h1, h2, h3⟩ | ⟨h1, h2, h3, h4, h5⟩
    · exact .inl ⟨by rw [hlow 0 (by omega)]; exact h1, h2, h3⟩
    · refine .inr ⟨by rw [hlow 0 (by omega)]; exact h1, h2, h3, h4, ?_⟩
      have e : secsF f (((framesB (pss.map recB)).length + 63) / 64) = secsF g (((framesB (pss.map recB)).length + 63) / 64) := by
        unfold secsF
        simp only [List.flatMap]
        congr 1
        exact List.map_congr_left fun k hk => hlow _ (by have := List.mem_range.1 hk; omega)
      rw [e]; exact h5
  · rw [← h.view id hid]
    unfold viewF
    cases hl : lastPg id pss.flatten with
    | some b => rfl
    | none => simp only [Option.getD_none]; exact imgF_congr fun k hk => hpg id k hid hk hl
/-- a database's disk at rest: whatever is kept, these pages are found, and they lie there -/
structure Rest (D : Disk) (log ep cnt : Nat) (pss : List (List Pg)) (W : Nat → Bs) : Prop where
  ok : D.Ok
  dn : D.down = false
  log2 : 2 ≤ log
  room : log + cnt * 8 ≤ D.kept.length
  cnt4 : 4 ≤ cnt
  safe : ∀ f, Cont D f → FoundF f log ep cnt pss W
  live : ∀ id, id < cnt → imgF D.look log id = W id
theorem found_ok {f : Nat → Bs} {log ep cnt : Nat} {pss : List (List Pg)} {W : Nat → Bs} (h : FoundF f log ep cnt pss W) : IdsOk cnt pss.flatten := idsOk_flat h.ok
/-- the pages are laid anew: those that the log bears -/
theorem redo_halt {D D' : Disk} {log ep cnt : Nat} {pss : List (List Pg)} {W : Nat → Bs} (hs : ∀ f, Cont D f → FoundF f log ep cnt pss W) (hlog : 2 ≤ log) (hroom : log + cnt * 8 ≤ D.kept.length) (ps : List Pg) (hps : ∀ x ∈ ps, x ∈ pss.flatten)
    (hlen : D'.kept.length = D.kept.length) (hp : ∀ i s, i < D.kept.length → D'.poss i s → D.poss i s ∨ ∃ t, .W i t ∈ redoActs log ps ∧ s = pad t) : ∀ f, Cont D' f → FoundF f log ep cnt pss W := by
  intro f hf
  obtain ⟨g, hg, hgf⟩ := cont_back (D := D) f
  have hw : ∀ i, i < D.kept.length → (∀ t, DAct.W i t ∉ redoActs log ps) → f i = g i := fun i hi hno => by
    rcases hp i (f i) hi (hf i (by rw [hlen]; exact hi)) with h | ⟨t, ht, _⟩
    · exact (hgf i hi h).symm
    · exact absurd ht (hno t)
  refine found_pages (n := log) (hs g hg) (by omega) (fun i hi => hw i (by omega) fun t ht => ?_) (fun id k hid hk hno => hw _ (by omega) fun t ht => ?_) rfl
  · obtain ⟨x, hx, k, hk, hi2, _⟩ := mem_redo ht
    omega
  · obtain ⟨x, hx, k2, hk2, hi2, _⟩ := mem_redo ht
    have e : x.1 = id := by omega
    exact lastPg_none hno x (hps x hx) e
theorem redo_live {D D' : Disk} {log cnt : Nat} {ps : List Pg} (h : Ran D (redoActs log ps) D') (hps : IdsOk cnt ps) (hroom : log + cnt * 8 ≤ D.kept.length) (id : Nat) (hid : id < cnt) : imgF D'.look log id = (lastPg id ps).getD (imgF D.look log id) := by
  have hk : ∀ k, k < 8 → D'.look (log + id * 8 + k) = ((lastPg id ps).map fun b => sect b k).getD (D.look (log + id * 8 + k)) := fun k hk => by
    rw [h.look _ (by omega), lastW_redo log id k hk ps fun x hx => (hps x hx).2]
  cases hl : lastPg id ps with
  | some b =>
    rw [hl] at hk
    exact imgF_of_sect (hps _ (lastPg_mem hl)).2 hk
  | none =>
    rw [hl] at hk
    exact imgF_congr hk
/-- nothing is pending: the disk holds what it shows -/
def Still (D : Disk) : Prop := ∀ i s, D.poss i s → s = D.look i
theorem still_cont {D : Disk} (h : Still D) {f : Nat → Bs} (hc : Cont D f) (i : Nat) (hi : i < D.kept.length) : f i = D.look i := h i _ (hc i hi)
/-- an empty log -/
theorem found_empty {f : Nat → Bs} {log ep cnt : Nat} {W : Nat → Bs} (h0 : f 0 = headB ep 0) (hep : ep ≤ 4611686018427387904) (hv : ∀ id, id < cnt → imgF f log id = W id) : FoundF f log ep cnt [] W := by
  refine ⟨.inr ⟨h0, hep, (fun r hr => by cases hr), Nat.zero_le _, rfl⟩, (fun ps hps => by cases hps), fun id hid => ?_⟩
  exact hv id hid
theorem settle_rest {D : Disk} {log ep cnt : Nat} {pss : List (List Pg)} {W : Nat → Bs} (h : Rest D log ep cnt pss W) (hep : ep < 4611686018427387904) :
    let r := D.run [.F, .W 0 (headB (ep + 1) 0), .F]
    (r.2 = 0 ∧ Rest r.1 log (ep + 1) cnt [] W ∧ r.1.kept.length = D.kept.length) ∨
      (r.2 = 10 ∧ r.1.down = true ∧ r.1.Ok ∧ r.1.kept.length = D.kept.length ∧ ∀ f, Cont r.1 f → FoundF f log ep cnt pss W ∨ FoundF f log (ep + 1) cnt [] W) := by
  intro r
  have hn : 0 < D.kept.length := h.ok.pos
  have hh := head_len (ep + 1) 0
  have hpad : pad (headB (ep + 1) 0) = headB (ep + 1) 0 := pad_full hh
  -- the first flush
  rcases run_cases (l := [.F]) h.ok h.dn (by intro a ha; rw [List.mem_singleton.1 ha]; trivial) with ⟨a0, a1⟩ | ⟨a0, a1⟩
  · have hst1 : Still (D.run [.F]).1 := fun i s hp => flushed (l := []) h.ok h.dn (by intro a ha; cases ha) a0 i s hp
    have hlk1 : ∀ i, i < D.kept.length → (D.run [.F]).1.look i = D.look i := fun i hi => a1.look i hi
    generalize hD1 : (D.run [.F]).1 = D1 at a1 hst1 hlk1
    have hrun1 : r = D1.run [.W 0 (headB (ep + 1) 0), .F] := by
      show D.run ([.F] ++ [.W 0 (headB (ep + 1) 0), .F]) = _
      rw [Disk.run_append, if_pos a0, hD1]
    rcases run_cases (l := [.W 0 (headB (ep + 1) 0)]) a1.ok a1.down (by intro a ha; rw [List.mem_singleton.1 ha, a1.len]; exact ⟨hn, by omega⟩) with ⟨b0, b1⟩ | ⟨b0, b1⟩
    · have hD2 : D1.run [.W 0 (headB (ep + 1) 0), .F] = (D1.run [.W 0 (headB (ep + 1) 0)]).1.run [.F] := by
        show D1.run ([.W 0 (headB (ep + 1) 0)] ++ [.F]) = _
        rw [Disk.run_append, if_pos b0]
      have hfl := flushed (l := [.W 0 (headB (ep + 1) 0)]) a1.ok a1.down (by intro a ha; rw [List.mem_singleton.1 ha, a1.len]; exact ⟨hn, by omega⟩)
      rw [show ([DAct.W 0 (headB (ep + 1) 0)] ++ [.F]) = [.W 0 (headB (ep + 1) 0), .F] from rfl, ← hrun1] at hfl
      rw [hD2] at hrun1
      generalize (D1.run [.W 0 (headB (ep + 1) 0)]).1 = D2 at b1 hrun1
      have hl2 : D2.kept.length = D.kept.length := b1.len.trans a1.len
      have hlk2 : ∀ i, i < D.kept.length → D2.look i = if i = 0 then headB (ep + 1) 0 else D.look i := fun i hi => by
        rw [b1.look i (by rw [a1.len]; exact hi)]
        by_cases hi0 : i = 0
        · subst hi0; simp [lastW, hpad]
        · have : ¬ (0 = i) := fun e => hi0 e.symm
          simp [lastW, this, hi0, hlk1 i hi]
      have hv : ∀ f : Nat → Bs, (∀ i, 0 < i → i < D.kept.length → f i = D.look i) → ∀ id, id < cnt → imgF f log id = W id := fun f hf id hid => by
        rw [← h.live id hid]
        exact imgF_congr fun k hk => hf _ (by have := h.log2; omega) (by have := h.room; omega)
      -- what may be there once the head is written
      have hpos : ∀ D', D'.kept.length = D.kept.length → (∀ i s, i < D.kept.length → D'.poss i s → D2.poss i s) → ∀ f, Cont D' f → FoundF f log ep cnt pss W ∨ FoundF f log (ep + 1) cnt [] W := by
        intro D' hl' hp f hf
        have hone : ∀ i, i < D.kept.length → D1.poss i (f i) ∨ (i = 0 ∧ f i = headB (ep + 1) 0) := fun i hi => by
          rcases b1.poss i (f i) (by rw [a1.len]; exact hi) (hp i _ hi (hf i (by rw [hl']; exact hi))) with h1 | ⟨t, ht, hs⟩
          · exact .inl h1
          · have h2 := List.mem_singleton.1 ht
            injection h2 with h3 h4
            subst h4
            exact .inr ⟨h3, by rw [hs, hpad]⟩
        have hoth : ∀ i, 0 < i → i < D.kept.length → f i = D.look i := fun i hi0 hi => by
          rcases hone i hi with h1 | ⟨h1, _⟩
          · rw [hst1 i _ h1, hlk1 i hi]
          · omega
        rcases hone 0 hn with h1 | ⟨_, h1⟩
        · refine .inl (h.safe f fun i hi => ?_)
          by_cases hi0 : i = 0
          · subst hi0; rw [hst1 0 _ h1, hlk1 0 hn]; exact look_poss hn
          · rw [hoth i (by omega) hi]; exact look_poss hi
        · exact .inr (found_empty h1 (by omega) (hv f hoth))
      rcases run_cases (l := [.F]) b1.ok b1.down (by intro a ha; rw [List.mem_singleton.1 ha]; trivial) with ⟨c0, c1⟩ | ⟨c0, c1⟩
      · rw [← hrun1] at c0 c1
        have hl3 : r.1.kept.length = D.kept.length := c1.len.trans hl2
        have hst3 : Still r.1 := hfl c0
        have hlk3 : ∀ i, i < D.kept.length → r.1.look i = if i = 0 then headB (ep + 1) 0 else D.look i := fun i hi => by
          rw [← hlk2 i hi]; exact c1.look i (by rw [hl2]; exact hi)
        refine .inl ⟨c0, ⟨c1.ok, c1.down, h.log2, by rw [hl3]; exact h.room, h.cnt4, fun f hf => ?_, fun id hid => ?_⟩, hl3⟩
        · have hf3 : ∀ i, i < D.kept.length → f i = if i = 0 then headB (ep + 1) 0 else D.look i := fun i hi => by
            rw [still_cont hst3 hf i (by rw [hl3]; exact hi), hlk3 i hi]
          exact found_empty (by rw [hf3 0 hn]; rfl) (by omega) (hv f fun i hi0 hi => by rw [hf3 i hi, if_neg (by omega)])
        · exact hv _ (fun i hi0 hi => by rw [hlk3 i hi, if_neg (by omega)]) id hid
      · rw [← hrun1] at c0 c1
        refine .inr ⟨c0, c1.down, c1.ok, c1.len.trans hl2, hpos r.1 (c1.len.trans hl2) fun i s hi hp => ?_⟩
        rcases c1.poss i s (by rw [hl2]; exact hi) hp with h1 | ⟨t, ht, _⟩
        · exact h1
        · have h2 := List.mem_singleton.1 ht; cases h2
    · have hD2 : D1.run [.W 0 (headB (ep + 1) 0), .F] = D1.run [.W 0 (headB (ep + 1) 0)] := by
        show D1.run ([.W 0 (headB (ep + 1) 0)] ++ [.F]) = _
        rw [Disk.run_append, if_neg (by rw [b0]; decide)]
      rw [hD2] at hrun1
      rw [← hrun1] at b0 b1
      refine .inr ⟨b0, b1.down, b1.ok, b1.len.trans a1.len, fun f hf => ?_⟩
      have hone : ∀ i, i < D.kept.length → D1.poss i (f i) ∨ (i = 0 ∧ f i = headB (ep + 1) 0) := fun i hi => by
        rcases b1.poss i (f i) (by rw [a1.len]; exact hi) (hf i (by rw [b1.len, a1.len]; exact hi)) with h1 | ⟨t, ht, hs⟩
        · exact .inl h1
        · have h2 := List.mem_singleton.1 ht
          injection h2 with h3 h4
          subst h4
          exact .inr ⟨h3, by rw [hs, hpad]⟩
      have hoth : ∀ i, 0 < i → i < D.kept.length → f i = D.look i := fun i hi0 hi => by
        rcases hone i hi with h1 | ⟨h1, _⟩
        · rw [hst1 i _ h1, hlk1 i hi]
        · omega
      rcases hone 0 hn with h1 | ⟨_, h1⟩
      · refine .inl (h.safe f fun i hi => ?_)
        by_cases hi0 : i = 0
        · subst hi0; rw [hst1 0 _ h1, hlk1 0 hn]; exact look_poss hn
        · rw [hoth i (by omega) hi]; exact look_poss hi
      · refine .inr (found_empty h1 (by omega) fun id hid => ?_)
        rw [← h.live id hid]
        exact imgF_congr fun k hk => hoth _ (by have := h.log2; omega) (by have := h.room; omega)
  · have hrun1 : r = D.run [.F] := by
      show D.run ([.F] ++ [.W 0 (headB (ep + 1) 0), .F]) = _
      rw [Disk.run_append, if_neg (by rw [a0]; decide)]
    rw [← hrun1] at a0 a1
    refine .inr ⟨a0, a1.down, a1.ok, a1.len, fun f hf => .inl (h.safe f (cont_mono a1.len (fun i s hi hp => ?_) hf))⟩
    rcases a1.poss i s hi hp with h1 | ⟨t, ht, _⟩
    · exact h1
    · have h2 := List.mem_singleton.1 ht; cases h2
end Go.Proofs.YthbbammibdhohaaGreatDoor

namespace Go.Proofs.YthbbammibdhohaaGreatDoor
open Go.RowKit Aq Go.Rgn

theorem framesB_snoc (recs : List Bs) (z : Bs) : framesB (recs ++ [z]) = framesB recs ++ frameB z := by simp [framesB]
theorem mem_lay {old i : Nat} {all t : Bs} (h : DAct.W i t ∈ layActs old all) : ∃ j, j < (all.length + 63) / 64 - old / 64 ∧ i = 1 + (old / 64 + j) ∧ t = (all.drop (64 * (old / 64 + j))).take 64 := by
  rw [layActs_eq] at h
  obtain ⟨j, hj, h⟩ := List.mem_map.1 h
  have h2 : DAct.W (1 + (old / 64 + j)) ((all.drop (64 * (old / 64 + j))).take 64) = .W i t := h
  injection h2 with h3 h4
  exact ⟨j, List.mem_range.1 hj, h3.symm, h4.symm⟩
theorem lastW_lay (s0 : Nat) (all : Bs) (j : Nat) : ∀ m, lastW (1 + (s0 + j)) ((List.range m).map (layAct s0 all)) = if j < m then some (pad ((all.drop (64 * (s0 + j))).take 64)) else none := by
  intro m
  induction m with
  | zero => rfl
  | succ m ih =>
    rw [List.range_succ, List.map_append, lastW_append, ih]
    have e : lastW (1 + (s0 + j)) (List.map (layAct s0 all) [m]) = if 1 + (s0 + m) = 1 + (s0 + j) then some (pad ((all.drop (64 * (s0 + m))).take 64)) else none := rfl
    rw [e]
    by_cases h1 : m = j
    · subst h1
      have e2 : (if m < m then some (pad ((all.drop (64 * (s0 + m))).take 64)) else none) = none := if_neg (by omega)
      rw [if_pos rfl, e2, if_pos (by omega)]; rfl
    · rw [if_neg (by omega)]
      by_cases h2 : j < m
      · rw [if_pos h2, if_pos (by omega)]; rfl
      · rw [if_neg h2, if_neg (by omega)]; rfl
theorem pad_get {l : Bs} {i : Nat} (h : i < l.length) : (pad l)[i]? = l[i]? := by rw [pad, List.getElem?_append_left h]
theorem slice_get (all : Bs) (q r : Nat) (hr : r < 64) (h : 64 * q + r < all.length) : (pad ((all.drop (64 * q)).take 64))[r]? = all[64 * q + r]? := by
  rw [pad_get (by rw [List.length_take, List.length_drop]; omega), List.getElem?_take_of_lt hr, List.getElem?_drop]
theorem slice_len (all : Bs) (q : Nat) : (pad ((all.drop (64 * q)).take 64)).length = 64 := pad_len (by rw [List.length_take]; omega)
/-- a sector of the log is as it was, or holds its part of all -/
theorem found_lay {f g : Nat → Bs} {log ep cnt : Nat} {pss : List (List Pg)} {W : Nat → Bs} {all rest : Bs} (h : FoundF g log ep cnt pss W) (hall : all = framesB (pss.map recB) ++ rest) (h0 : f 0 = g 0)
    (hlow : ∀ j, 1 + j < log → f (1 + j) = g (1 + j) ∨ f (1 + j) = pad ((all.drop (64 * j)).take 64)) (hlen : ∀ j, 1 + j < log → (g (1 + j)).length = 64) (hhi : ∀ i, log ≤ i → f i = g i) : FoundF f log ep cnt pss W := by
  refine ⟨?_, h.ok, fun id hid => ?_⟩
  · rcases h.lg with ⟨h1, h2, h3⟩ | ⟨h1, h2, h3, h4, h5⟩
    · exact .inl ⟨by rw [h0]; exact h1, h2, h3⟩
    · refine .inr ⟨by rw [h0]; exact h1, h2, h3, h4, ?_⟩
      have hg := (secs_iff (b := framesB (pss.map recB)) fun j hj => hlen j (by omega)).1 h5
      refine (secs_iff fun j hj => ?_).2 fun i hi => ?_
      · rcases hlow j (by omega) with e | e
        · rw [e]; exact hlen j (by omega)
        · rw [e]; exact slice_len all j
      · rcases hlow (i / 64) (by omega) with e | e
        · rw [e]; exact hg i hi
        · have hlt : i < all.length := by rw [hall, List.length_append]; omega
          rw [e, slice_get all (i / 64) (i % 64) (by omega) (by omega), show 64 * (i / 64) + i % 64 = i from by omega, hall, List.getElem?_append_left hi]
  · rw [← h.view id hid]
    unfold viewF
    cases hl : lastPg id pss.flatten with
    | some b => rfl
    | none => simp only [Option.getD_none]; exact imgF_congr fun k hk => hhi _ (by omega)
def addPg (J : List Pg) (W : Nat → Bs) : Nat → Bs := fun id => (lastPg id J).getD (W id)
/-- the record is in the log -/
theorem found_new {f g : Nat → Bs} {log ep cnt : Nat} {pss : List (List Pg)} {W : Nat → Bs} {J : List Pg} (h : FoundF g log ep cnt pss W) (hJ : PgsOk cnt J) (hz : (recB J).length ≤ 65536) (hep : ep ≤ 4611686018427387904)
    (h0 : f 0 = headB ep (framesB ((pss ++ [J]).map recB)).length) (hfit : (framesB ((pss ++ [J]).map recB)).length ≤ 64 * (log - 1)) (hlen : ∀ j, 1 + j < log → (f (1 + j)).length = 64)
    (hs : SecE f (framesB ((pss ++ [J]).map recB))) (hhi : ∀ id k, id < cnt → k < 8 → lastPg id J = none → lastPg id pss.flatten = none → f (log + id * 8 + k) = g (log + id * 8 + k)) : FoundF f log ep cnt (pss ++ [J]) (addPg J W) := by
  refine ⟨.inr ⟨h0, hep, fun r hr => ?_, hfit, (secs_iff fun j hj => hlen j (by omega)).2 hs⟩, fun ps hps => ?_, fun id hid => ?_⟩
  · rw [List.map_append] at hr
    rcases List.mem_append.1 hr with hr | hr
    · rcases h.lg with ⟨_, _, h3⟩ | ⟨_, _, h3, _, _⟩
      · rw [h3] at hr; cases hr
      · exact h3 r hr
    · rw [List.mem_singleton.1 hr]; exact hz
  · rcases List.mem_append.1 hps with hps | hps
    · exact h.ok ps hps
    · rw [List.mem_singleton.1 hps]; exact hJ
  · have hv := h.view id hid
    unfold viewF at hv ⊢
    have e : (pss ++ [J]).flatten = pss.flatten ++ J := by simp
    rw [e, lastPg_append]
    unfold addPg
    cases h1 : lastPg id J with
    | some b => rfl
    | none =>
      simp only [Option.none_or, Option.getD_none]
      rw [← hv]
      cases h2 : lastPg id pss.flatten with
      | some b => rfl
      | none => simp only [Option.getD_none]; exact imgF_congr fun k hk => hhi id k hid hk h1 h2
def FoundEither (f : Nat → Bs) (log ep cnt : Nat) (pss : List (List Pg)) (J : List Pg) (W : Nat → Bs) : Prop := FoundF f log ep cnt pss W ∨ FoundF f log ep cnt (pss ++ [J]) (addPg J W)
theorem run_snoc (D : Disk) (l : List DAct) (a : DAct) (m : List DAct) : D.run (l ++ a :: m) = if (D.run (l ++ [a])).2 = 0 then (D.run (l ++ [a])).1.run m else D.run (l ++ [a]) := by
  rw [show l ++ a :: m = (l ++ [a]) ++ m from by simp, Disk.run_append]
theorem sync_rest {D : Disk} {log ep cnt : Nat} {pss : List (List Pg)} {W : Nat → Bs} (h : Rest D log ep cnt pss W) (J : List Pg) (hJ : PgsOk cnt J) (hz : (recB J).length ≤ 65536) (hep : ep ≤ 4611686018427387904)
    (hfit : (framesB (pss.map recB)).length + (8 + (recB J).length) ≤ 64 * (log - 1)) :
    let r := D.run (layActs (framesB (pss.map recB)).length (framesB (pss.map recB) ++ frameB (recB J)) ++ [.F, .W 0 (headB ep (framesB (pss.map recB) ++ frameB (recB J)).length), .F])
    (r.2 = 0 ∧ r.1.Ok ∧ r.1.down = false ∧ r.1.kept.length = D.kept.length ∧ (∀ f, Cont r.1 f → FoundF f log ep cnt (pss ++ [J]) (addPg J W)) ∧ ∀ i, log ≤ i → i < D.kept.length → r.1.look i = D.look i) ∨
      (r.2 = 10 ∧ r.1.down = true ∧ r.1.Ok ∧ r.1.kept.length = D.kept.length ∧ ∀ f, Cont r.1 f → FoundEither f log ep cnt pss J W) := by
  obtain ⟨bytes, hby⟩ : ∃ b, b = framesB (pss.map recB) := ⟨_, rfl⟩
  obtain ⟨all, hall⟩ : ∃ a, a = bytes ++ frameB (recB J) := ⟨_, rfl⟩
  have hall2 : framesB ((pss ++ [J]).map recB) = all := by rw [List.map_append, hall, hby]; exact framesB_snoc _ _
  have hal : all.length = bytes.length + (8 + (recB J).length) := by rw [hall, List.length_append, frame_len]
  rw [← hby, ← hall]
  rw [← hby] at hfit
  intro r
  have hn : 0 < D.kept.length := h.ok.pos
  have hroom := h.room
  have hh := head_len ep all.length
  have hpad : pad (headB ep all.length) = headB ep all.length := pad_full hh
  obtain ⟨lay, hlay⟩ : ∃ l, l = layActs bytes.length all := ⟨_, rfl⟩
  have hr : r = D.run (lay ++ [.F, .W 0 (headB ep all.length), .F]) := by rw [hlay]
  have hin : ∀ a ∈ lay, ActIn D.kept.length a := fun a ha => by
    cases a with
    | F => trivial
    | W i t =>
      rw [hlay] at ha
      obtain ⟨j, hj, rfl, rfl⟩ := mem_lay ha
      exact ⟨by omega, by rw [List.length_take]; omega⟩
  have hD0 := h.safe D.look (cont_look D)
  have hlk0 : ∀ j, 1 + j < log → (D.look (1 + j)).length = 64 := fun j hj => cont_len h.ok (cont_look D) (1 + j) (by omega)
  -- behind the laying, and within it
  have hP1 : ∀ D', D'.kept.length = D.kept.length → (∀ i s, i < D.kept.length → D'.poss i s → D.poss i s ∨ ∃ t, .W i t ∈ lay ∧ s = pad t) → ∀ f, Cont D' f → FoundF f log ep cnt pss W := by
    intro D' hl' hp f hf
    obtain ⟨g, hg, hgf⟩ := cont_back (D := D) f
    have hw : ∀ i, i < D.kept.length → f i = g i ∨ ∃ t, .W i t ∈ lay ∧ f i = pad t := fun i hi => by
      rcases hp i (f i) hi (hf i (by rw [hl']; exact hi)) with h1 | h1
      · exact .inl (hgf i hi h1).symm
      · exact .inr h1
    have hsafe := h.safe g hg
    refine ⟨?_, hsafe.ok, ?_⟩
    all_goals
      have hno : ∀ i, i < D.kept.length → (∀ j, i ≠ 1 + (bytes.length / 64 + j) ∨ (all.length + 63) / 64 - bytes.length / 64 ≤ j) → f i = g i := fun i hi hne => by
        rcases hw i hi with h1 | ⟨t, ht, _⟩
        · exact h1
        · rw [hlay] at ht
          obtain ⟨j, hj, hij, _⟩ := mem_lay ht
          rcases hne j with h2 | h2
          · exact absurd hij h2
          · omega
      have hfnd : ∀ f' : Nat → Bs, (∀ i, i < D.kept.length → f' i = f i) → (∀ i, D.kept.length ≤ i → f' i = g i) → FoundF f' log ep cnt pss W := fun f' h1 h2 => by
        refine found_lay hsafe (all := all) (rest := frameB (recB J)) (by rw [← hby]; exact hall) ?_ (fun j hj => ?_) (fun j hj => cont_len h.ok hg (1 + j) (by omega)) fun i hi => ?_
        · rw [h1 0 hn]; exact hno 0 hn fun j => .inl (by omega)
        · rw [h1 (1 + j) (by omega)]
          rcases hw (1 + j) (by omega) with h3 | ⟨t, ht, h4⟩
          · exact .inl h3
          · rw [hlay] at ht
            obtain ⟨j2, hj2, hij, rfl⟩ := mem_lay ht
            have : bytes.length / 64 + j2 = j := by omega
            rw [this] at h4
            exact .inr h4
        · by_cases hi2 : i < D.kept.length
          · rw [h1 i hi2]; exact hno i hi2 fun j => by omega
          · exact h2 i (by omega)
    · have h9 := (hfnd (fun i => if i < D.kept.length then f i else g i) (fun i hi => if_pos hi) (fun i hi => if_neg (by omega))).lg
      have hmix : ∀ i, i < log → (fun i => if i < D.kept.length then f i else g i) i = f i := fun i hi => if_pos (by omega)
      rcases h9 with ⟨h1, h2, h3⟩ | ⟨h1, h2, h3, h4, h5⟩
      · exact .inl ⟨by rw [← hmix 0 (by have := h.log2; omega)]; exact h1, h2, h3⟩
      · refine .inr ⟨by rw [← hmix 0 (by have := h.log2; omega)]; exact h1, h2, h3, h4, ?_⟩
        have e : secsF (fun i => if i < D.kept.length then f i else g i) (((framesB (pss.map recB)).length + 63) / 64) = secsF f (((framesB (pss.map recB)).length + 63) / 64) := by
          unfold secsF
          simp only [List.flatMap]
          congr 1
          exact List.map_congr_left fun k hk => hmix (1 + k) (by have := List.mem_range.1 hk; omega)
        rw [← e]; exact h5
    · intro id hid
      have h9 := (hfnd (fun i => if i < D.kept.length then f i else g i) (fun i hi => if_pos hi) (fun i hi => if_neg (by omega))).view id hid
      rw [← h9]
      unfold viewF
      cases hl : lastPg id pss.flatten with
      | some b => rfl
      | none => simp only [Option.getD_none]; exact imgF_congr fun k hk => (if_pos (by omega)).symm
  rcases run_cases h.ok h.dn hin with ⟨a0, a1⟩ | ⟨a0, a1⟩
  case inr =>
    have e : r = D.run lay := by rw [hr, Disk.run_append, if_neg (by rw [a0]; decide)]
    rw [← e] at a0 a1
    exact .inr ⟨a0, a1.down, a1.ok, a1.len, fun f hf => .inl (hP1 r.1 a1.len a1.poss f hf)⟩
  have hlk1 : ∀ i, i < D.kept.length → (D.run lay).1.look i = (lastW i lay).getD (D.look i) := a1.look
  have hfl1 : (D.run (lay ++ [.F])).2 = 0 → Still (D.run (lay ++ [.F])).1 := fun h0 i s hp => flushed h.ok h.dn hin h0 i s hp
  have e1 : D.run (lay ++ [.F]) = (D.run lay).1.run [.F] := by rw [Disk.run_append, if_pos a0]
  have e2 : r = if (D.run (lay ++ [.F])).2 = 0 then (D.run (lay ++ [.F])).1.run [.W 0 (headB ep all.length), .F] else D.run (lay ++ [.F]) := by rw [hr]; exact run_snoc D lay .F _
  rw [e1] at e2 hfl1
  have hP1' := hP1 (D.run lay).1 a1.len a1.poss
  generalize (D.run lay).1 = D1 at a1 hlk1 hfl1 e2 hP1'
  rcases run_cases (l := [.F]) a1.ok a1.down (by intro a ha; rw [List.mem_singleton.1 ha]; trivial) with ⟨b0, b1⟩ | ⟨b0, b1⟩
  case inr =>
    rw [if_neg (by rw [b0]; decide)] at e2
    rw [← e2] at b0 b1
    refine .inr ⟨b0, b1.down, b1.ok, b1.len.trans a1.len, fun f hf => .inl (hP1' f (cont_mono b1.len (fun i s hi hp => ?_) hf))⟩
    rcases b1.poss i s hi hp with h1 | ⟨t, ht, _⟩
    · exact h1
    · have h2 := List.mem_singleton.1 ht; cases h2
  rw [if_pos b0] at e2
  have hst2 := hfl1 b0
  have hlk2 : ∀ i, i < D.kept.length → (D1.run [.F]).1.look i = (lastW i lay).getD (D.look i) := fun i hi => by
    rw [← hlk1 i hi]; exact b1.look i (by rw [a1.len]; exact hi)
  have hfnd2 : FoundF (D1.run [.F]).1.look log ep cnt pss W := hP1' _ (cont_mono b1.len (fun i s hi hp => by
    rcases b1.poss i s hi hp with h1 | ⟨t, ht, _⟩
    · exact h1
    · have h2 := List.mem_singleton.1 ht; cases h2) (cont_look _))
  generalize (D1.run [.F]).1 = D2 at b1 e2 hst2 hlk2 hfnd2
  have hl2 : D2.kept.length = D.kept.length := b1.len.trans a1.len
  have hlow2 : ∀ q, 64 * q < all.length → D2.look (1 + q) = if bytes.length / 64 ≤ q then pad ((all.drop (64 * q)).take 64) else D.look (1 + q) := fun q hq => by
    rw [hlk2 (1 + q) (by omega), hlay, layActs_eq]
    by_cases hb : bytes.length / 64 ≤ q
    · rw [if_pos hb]
      have h1 := lastW_lay (bytes.length / 64) all (q - bytes.length / 64) ((all.length + 63) / 64 - bytes.length / 64)
      rw [show bytes.length / 64 + (q - bytes.length / 64) = q from by omega, if_pos (by omega)] at h1
      rw [h1]; rfl
    · rw [if_neg hb, lastW_none fun t ht => ?_]
      · rfl
      · rw [← layActs_eq] at ht
        obtain ⟨j, _, hij, _⟩ := mem_lay ht
        omega
  have hhigh2 : ∀ i, log ≤ i → i < D.kept.length → D2.look i = D.look i := fun i hi hi2 => by
    rw [hlk2 i hi2, lastW_none fun t ht => ?_]
    · rfl
    · rw [hlay] at ht
      obtain ⟨j, hj, hij, _⟩ := mem_lay ht
      omega
  have hlen2 : ∀ j, 1 + j < log → (D2.look (1 + j)).length = 64 := fun j hj => cont_len b1.ok (cont_look D2) (1 + j) (by omega)
  have hsec2 : SecE D2.look all := fun i hi => by
    rw [hlow2 (i / 64) (by omega)]
    by_cases hb : bytes.length / 64 ≤ i / 64
    · rw [if_pos hb, slice_get all (i / 64) (i % 64) (by omega) (by omega), show 64 * (i / 64) + i % 64 = i from by omega]
    · rw [if_neg hb]
      have hib : i < bytes.length := by omega
      rcases hD0.lg with ⟨_, _, h3⟩ | ⟨_, _, _, _, h5⟩
      · rw [hby, h3] at hib; exact absurd hib (by show ¬ (i < 0); omega)
      · have hg := (secs_iff (b := framesB (pss.map recB)) fun j hj => hlk0 j (by rw [hby] at hfit; omega)).1 h5
        rw [hg i (by rw [← hby]; exact hib), ← hby, hall, List.getElem?_append_left hib]
  -- what may be there once the head is written
  have hnew : ∀ f : Nat → Bs, f 0 = headB ep all.length → (∀ i, 0 < i → i < D.kept.length → f i = D2.look i) → FoundF f log ep cnt (pss ++ [J]) (addPg J W) := fun f h0 hf => by
    refine found_new hfnd2 hJ hz hep (by rw [hall2]; exact h0) (by rw [hall2]; omega) (fun j hj => ?_) ?_ fun id k hid hk _ _ => ?_
    · rw [hf _ (by omega) (by omega)]; exact hlen2 j hj
    · rw [hall2]
      intro i hi
      rw [hf _ (by omega) (by omega)]; exact hsec2 i hi
    · exact hf _ (by have := h.log2; omega) (by omega)
  rcases run_cases (l := [.W 0 (headB ep all.length)]) b1.ok b1.down (by intro a ha; rw [List.mem_singleton.1 ha, hl2]; exact ⟨hn, by omega⟩) with ⟨c0, c1⟩ | ⟨c0, c1⟩
  all_goals
    have hone : ∀ D', D'.kept.length = D2.kept.length → (∀ i s, i < D2.kept.length → D'.poss i s → D2.poss i s ∨ ∃ t, .W i t ∈ [DAct.W 0 (headB ep all.length)] ∧ s = pad t) → ∀ f, Cont D' f → FoundEither f log ep cnt pss J W := by
      intro D' hl' hp f hf
      have hc : ∀ i, i < D.kept.length → f i = D2.look i ∨ (i = 0 ∧ f i = headB ep all.length) := fun i hi => by
        rcases hp i (f i) (by rw [hl2]; exact hi) (hf i (by rw [hl', hl2]; exact hi)) with h1 | ⟨t, ht, hs⟩
        · exact .inl (hst2 i _ h1)
        · have h2 := List.mem_singleton.1 ht
          injection h2 with h3 h4
          subst h4
          exact .inr ⟨h3, by rw [hs, hpad]⟩
      have hoth : ∀ i, 0 < i → i < D.kept.length → f i = D2.look i := fun i hi0 hi => by
        rcases hc i hi with h1 | ⟨h1, _⟩
        · exact h1
        · omega
      rcases hc 0 hn with h1 | ⟨_, h1⟩
      · refine .inl (found_pages (n := log) hfnd2 (by have := h.log2; omega) (fun i hi => ?_) (fun id k hid hk _ => hoth _ (by have := h.log2; omega) (by omega)) rfl)
        by_cases hi0 : i = 0
        · subst hi0; exact h1
        · exact hoth i (by omega) (by omega)
      · exact .inr (hnew f h1 hoth)
  case inr =>
    have e3 : r = D2.run [.W 0 (headB ep all.length)] := by
      rw [e2]
      show D2.run ([.W 0 (headB ep all.length)] ++ [.F]) = _
      rw [Disk.run_append, if_neg (by rw [c0]; decide)]
    rw [← e3] at c0 c1
    exact .inr ⟨c0, c1.down, c1.ok, c1.len.trans hl2, hone r.1 c1.len c1.poss⟩
  have e3 : r = (D2.run [.W 0 (headB ep all.length)]).1.run [.F] := by
    rw [e2]
    show D2.run ([.W 0 (headB ep all.length)] ++ [.F]) = _
    rw [Disk.run_append, if_pos c0]
  have hfl4 := flushed (l := [.W 0 (headB ep all.length)]) b1.ok b1.down (by intro a ha; rw [List.mem_singleton.1 ha, hl2]; exact ⟨hn, by omega⟩)
  have hone' := hone (D2.run [.W 0 (headB ep all.length)]).1 c1.len c1.poss
  have e4 : D2.run ([.W 0 (headB ep all.length)] ++ [.F]) = r := by rw [e2]; rfl
  rw [e4] at hfl4
  generalize (D2.run [.W 0 (headB ep all.length)]).1 = D3 at c1 e3 hone'
  rcases run_cases (l := [.F]) c1.ok c1.down (by intro a ha; rw [List.mem_singleton.1 ha]; trivial) with ⟨d0, d1⟩ | ⟨d0, d1⟩
  · rw [← e3] at d0 d1
    have hl4 : r.1.kept.length = D.kept.length := d1.len.trans (c1.len.trans hl2)
    have hst4 : Still r.1 := hfl4 d0
    have hlk4 : ∀ i, i < D.kept.length → r.1.look i = if i = 0 then headB ep all.length else D2.look i := fun i hi => by
      have h1 : r.1.look i = D3.look i := d1.look i (by rw [c1.len, hl2]; exact hi)
      rw [h1, c1.look i (by rw [hl2]; exact hi)]
      by_cases hi0 : i = 0
      · subst hi0; simp [lastW, hpad]
      · have : ¬ (0 = i) := fun e => hi0 e.symm
        simp [lastW, this, hi0]
    refine .inl ⟨d0, d1.ok, d1.down, hl4, fun f hf => ?_, fun i hi hi2 => ?_⟩
    · have hfe : ∀ i, i < D.kept.length → f i = r.1.look i := fun i hi => still_cont hst4 hf i (by rw [hl4]; exact hi)
      exact hnew f (by rw [hfe 0 hn, hlk4 0 hn]; rfl) fun i hi0 hi => by rw [hfe i hi, hlk4 i hi, if_neg (by omega)]
    · rw [hlk4 i hi2, if_neg (by have := h.log2; omega)]; exact hhigh2 i hi hi2
  · rw [← e3] at d0 d1
    refine .inr ⟨d0, d1.down, d1.ok, d1.len.trans (c1.len.trans hl2), fun f hf => hone' f (cont_mono d1.len (fun i s hi hp => ?_) hf)⟩
    rcases d1.poss i s hi hp with h1 | ⟨t, ht, _⟩
    · exact h1
    · have h2 := List.mem_singleton.1 ht; cases h2
end Go.Proofs.YthbbammibdhohaaGreatDoor

namespace Go.Proofs.YthbbammibdhohaaGreatDoor
open Go.RowKit Aq Go.Rgn

/-- what is found if the power went while a database went from W to W2 -/
def FoundAny (f : Nat → Bs) (log k cnt : Nat) (W W2 : Nat → Bs) : Prop := ∃ ep pss, ep ≤ k ∧ (FoundF f log ep cnt pss W ∨ FoundF f log ep cnt pss W2)
structure Lost (D D' : Disk) (log k cnt : Nat) (W W2 : Nat → Bs) : Prop where
  down : D'.down = true
  ok : D'.Ok
  len : D'.kept.length = D.kept.length
  found : ∀ f, Cont D' f → FoundAny f log k cnt W W2
theorem redo_rest {D : Disk} {log ep cnt : Nat} {pss : List (List Pg)} {W W2 : Nat → Bs} (hok : D.Ok) (hdn : D.down = false) (hlog : 2 ≤ log) (hroom : log + cnt * 8 ≤ D.kept.length) (hcnt : 4 ≤ cnt) (hs : ∀ f, Cont D f → FoundF f log ep cnt pss W2) (ps : List Pg) (hps : ∀ x ∈ ps, x ∈ pss.flatten)
    (hl : ∀ id, id < cnt → (lastPg id ps).getD (imgF D.look log id) = W2 id) :
    let r := D.run (redoActs log ps)
    (r.2 = 0 ∧ Rest r.1 log ep cnt pss W2 ∧ r.1.kept.length = D.kept.length) ∨ (r.2 = 10 ∧ Lost D r.1 log ep cnt W W2) := by
  intro r
  have hids : IdsOk cnt ps := fun x hx => found_ok (hs D.look (cont_look D)) x (hps x hx)
  rcases run_cases hok hdn (redo_in hids hroom) with ⟨a0, a1⟩ | ⟨a0, a1⟩
  · exact .inl ⟨a0, ⟨a1.ok, a1.down, hlog, by rw [a1.len]; exact hroom, hcnt, redo_halt hs hlog hroom ps hps a1.len a1.poss, fun id hid => by rw [redo_live a1 hids hroom id hid]; exact hl id hid⟩, a1.len⟩
  · exact .inr ⟨a0, a1.down, a1.ok, a1.len, fun f hf => ⟨ep, pss, Nat.le_refl _, .inr (redo_halt hs hlog hroom ps hps a1.len a1.poss f hf)⟩⟩
theorem fresh_sync (log ep : Nat) (pss : List (List Pg)) (J : List Pg) : Log.sync (freshLog log ep (pss.map recB)) (recB J) = freshLog log ep ((pss ++ [J]).map recB) := by
  unfold Log.sync freshLog syncAll
  simp only [List.map_append, List.map_cons, List.map_nil, framesB_snoc]
theorem fresh_reset (log ep : Nat) (recs : List Bs) : Log.reset (freshLog log ep recs) = freshLog log (ep + 1) [] := rfl
theorem write_rest {D : Disk} {log ep cnt : Nat} {pss : List (List Pg)} {W : Nat → Bs} (h : Rest D log ep cnt pss W) (J : List Pg) (hJ : PgsOk cnt J) (hz : (recB J).length ≤ 65536) (hep : ep ≤ 4611686018427387904)
    (hfit : (framesB (pss.map recB)).length + (8 + (recB J).length) ≤ 64 * (log - 1)) :
    let r2 := D.run (syncActs (freshLog log ep (pss.map recB)) (recB J))
    let r := if r2.2 ≠ 0 then r2 else r2.1.run (redoActs log J)
    (r.2 = 0 ∧ Rest r.1 log ep cnt (pss ++ [J]) (addPg J W) ∧ r.1.kept.length = D.kept.length) ∨ (r.2 = 10 ∧ Lost D r.1 log ep cnt W (addPg J W)) := by
  intro r2 r
  have hs := sync_rest h J hJ hz hep hfit
  have e : D.run (layActs (framesB (pss.map recB)).length (framesB (pss.map recB) ++ frameB (recB J)) ++ [.F, .W 0 (headB ep (framesB (pss.map recB) ++ frameB (recB J)).length), .F]) = r2 := rfl
  rw [e] at hs
  rcases hs with ⟨a0, a1, a2, a3, a4, a5⟩ | ⟨a0, a1, a2, a3, a4⟩
  · have er : r = r2.1.run (redoActs log J) := if_neg (by rw [a0]; decide)
    have hr := redo_rest (W := W) (W2 := addPg J W) a1 a2 h.log2 (by rw [a3]; exact h.room) h.cnt4 a4 J (fun x hx => List.mem_flatten.2 ⟨J, List.mem_append_right _ (List.mem_singleton.2 rfl), hx⟩) (fun id hid => by
      have e2 : imgF r2.1.look log id = W id := by rw [← h.live id hid]; exact imgF_congr fun k hk => a5 _ (by omega) (by have := h.room; omega)
      rw [e2]; rfl)
    rw [← er] at hr
    rcases hr with ⟨b0, b1, b2⟩ | ⟨b0, b1⟩
    · exact .inl ⟨b0, b1, b2.trans a3⟩
    · exact .inr ⟨b0, b1.down, b1.ok, b1.len.trans a3, b1.found⟩
  · have er : r = r2 := if_pos (by rw [a0]; decide)
    rw [er]
    refine .inr ⟨a0, a1, a2, a3, fun f hf => ?_⟩
    rcases a4 f hf with h1 | h1
    · exact ⟨ep, pss, Nat.le_refl _, .inl h1⟩
    · exact ⟨ep, pss ++ [J], Nat.le_refl _, .inr h1⟩
theorem commit_rest {D : Disk} {log ep cnt : Nat} {pss : List (List Pg)} {W : Nat → Bs} (h : Rest D log ep cnt pss W) (J : List Pg) (hJ : PgsOk cnt J) (hz : (recB J).length ≤ 65536) (hep : ep < 4611686018427387904)
    (hfit : (recB J).length + 8 ≤ 64 * (log - 1)) :
    let r := commitRun log D (freshLog log ep (pss.map recB)) J
    (r.2 = 0 ∧ (∃ ep2 pss2, ep2 ≤ ep + 1 ∧ Rest r.1 log ep2 cnt pss2 (addPg J W) ∧ commitLog (freshLog log ep (pss.map recB)) J = freshLog log ep2 (pss2.map recB)) ∧ r.1.kept.length = D.kept.length) ∨
      (r.2 = 10 ∧ Lost D r.1 log (ep + 1) cnt W (addPg J W)) := by
  intro r
  obtain ⟨L, hL⟩ : ∃ L, L = freshLog log ep (pss.map recB) := ⟨_, rfl⟩
  have hr : r = commitRun log D L J := by rw [hL]
  rw [← hL]
  cases hf : fitsB L (recB J).length
  · have e : r = (let r1 := D.run (settleActs L); if r1.2 ≠ 0 then r1 else let r2 := r1.1.run (syncActs (Log.reset L) (recB J)); if r2.2 ≠ 0 then r2 else r2.1.run (redoActs log J)) := by
      rw [hr]; unfold commitRun; simp only [hf, Bool.false_eq_true, if_false]
    have e1 : settleActs L = [.F, .W 0 (headB (ep + 1) 0), .F] := by rw [hL]; rfl
    have e2 : Log.reset L = freshLog log (ep + 1) (([] : List (List Pg)).map recB) := by rw [hL]; rfl
    have e3 : commitLog L J = freshLog log (ep + 1) (([J] : List (List Pg)).map recB) := by
      unfold commitLog; rw [hf]; simp only [Bool.false_eq_true, if_false]; rw [e2, fresh_sync]; rfl
    have hs := settle_rest h hep
    rw [← e1] at hs
    rw [e2] at e
    rcases hs with ⟨a0, a1, a2⟩ | ⟨a0, a1, a2, a3, a4⟩
    · have hw := write_rest a1 J hJ hz (by omega) (by show 0 + _ ≤ _; omega)
      have er : r = (let r2 := (D.run (settleActs L)).1.run (syncActs (freshLog log (ep + 1) (([] : List (List Pg)).map recB)) (recB J)); if r2.2 ≠ 0 then r2 else r2.1.run (redoActs log J)) := by
        rw [e]; exact if_neg (by rw [a0]; decide)
      rw [er]
      rcases hw with ⟨b0, b1, b2⟩ | ⟨b0, b1⟩
      · exact .inl ⟨b0, ⟨ep + 1, [J], Nat.le_refl _, b1, e3⟩, b2.trans a2⟩
      · exact .inr ⟨b0, b1.down, b1.ok, b1.len.trans a2, b1.found⟩
    · have er : r = D.run (settleActs L) := by rw [e]; exact if_pos (by rw [a0]; decide)
      rw [er]
      refine .inr ⟨a0, a1, a2, a3, fun f hf => ?_⟩
      rcases a4 f hf with h1 | h1
      · exact ⟨ep, pss, by omega, .inl h1⟩
      · exact ⟨ep + 1, [], Nat.le_refl _, .inl h1⟩
  · have e : r = (let r2 := D.run (syncActs L (recB J)); if r2.2 ≠ 0 then r2 else r2.1.run (redoActs log J)) := by
      rw [hr]; unfold commitRun; simp only [hf, if_true, ne_eq, not_true_eq_false, if_false]
    have e3 : commitLog L J = freshLog log ep ((pss ++ [J]).map recB) := by
      unfold commitLog; rw [hf]; simp only [if_true]; rw [hL, fresh_sync]
    have hfit2 : (framesB (pss.map recB)).length + (8 + (recB J).length) ≤ 64 * (log - 1) := by
      have h1 : (recB J).length + 8 ≤ 64 * (L.n - 1) - L.bytes.length := by simpa [fitsB] using hf
      have h2 : L.n = log := by rw [hL]; rfl
      have h3 : L.bytes = framesB (pss.map recB) := by rw [hL]; rfl
      rw [h2, h3] at h1
      omega
    have hw := write_rest h J hJ hz (by omega) hfit2
    rw [← hL] at hw
    rw [e]
    rcases hw with ⟨b0, b1, b2⟩ | ⟨b0, b1⟩
    · exact .inl ⟨b0, ⟨ep, pss ++ [J], by omega, b1, e3⟩, b2⟩
    · refine .inr ⟨b0, b1.down, b1.ok, b1.len, fun f hf => ?_⟩
      obtain ⟨ep2, pss2, h1, h2⟩ := b1.found f hf
      exact ⟨ep2, pss2, by omega, h2⟩
theorem open_rest {D : Disk} {log ep cnt : Nat} {pss : List (List Pg)} {W : Nat → Bs} (hok : D.Ok) (hdn : D.down = false) (hlog : 2 ≤ log) (hroom : log + cnt * 8 ≤ D.kept.length) (hcnt : 4 ≤ cnt) (hs : ∀ f, Cont D f → FoundF f log ep cnt pss W) (hep : ep < 4611686018427387904) :
    let r := D.run (openActs log ep pss)
    (r.2 = 0 ∧ (∃ ep2, ep2 ≤ ep + 1 ∧ Rest r.1 log ep2 cnt [] W ∧ openLog log ep pss = freshLog log ep2 []) ∧ r.1.kept.length = D.kept.length) ∨ (r.2 = 10 ∧ Lost D r.1 log (ep + 1) cnt W W) := by
  intro r
  have hr : r = if (D.run (redoActs log pss.flatten)).2 = 0 then (D.run (redoActs log pss.flatten)).1.run (if pss = [] then [] else [.F, .W 0 (headB (ep + 1) 0), .F]) else D.run (redoActs log pss.flatten) := by
    show D.run (openActs log ep pss) = _
    rw [openActs, redoAll_flat, Disk.run_append]
  have h1 := redo_rest (W := W) (W2 := W) hok hdn hlog hroom hcnt hs pss.flatten (fun x hx => hx) (fun id hid => (hs D.look (cont_look D)).view id hid)
  rcases h1 with ⟨a0, a1, a2⟩ | ⟨a0, a1⟩
  · rw [if_pos a0] at hr
    by_cases hp : pss = []
    · rw [if_pos hp] at hr
      have er : r = ((D.run (redoActs log pss.flatten)).1, 0) := hr
      rw [er]
      refine .inl ⟨rfl, ⟨ep, by omega, by subst hp; exact a1, by rw [openLog, if_pos hp]⟩, a2⟩
    · rw [if_neg hp] at hr
      rw [hr]
      rcases settle_rest a1 hep with ⟨b0, b1, b2⟩ | ⟨b0, b1, b2, b3, b4⟩
      · exact .inl ⟨b0, ⟨ep + 1, Nat.le_refl _, b1, by rw [openLog, if_neg hp, fresh_reset]⟩, b2.trans a2⟩
      · refine .inr ⟨b0, b1, b2, b3.trans a2, fun f hf => ?_⟩
        rcases b4 f hf with h2 | h2
        · exact ⟨ep, pss, by omega, .inl h2⟩
        · exact ⟨ep + 1, [], Nat.le_refl _, .inl h2⟩
  · rw [if_neg (by rw [a0]; decide)] at hr
    rw [hr]
    refine .inr ⟨a0, a1.down, a1.ok, a1.len, fun f hf => ?_⟩
    obtain ⟨ep2, pss2, h2, h3⟩ := a1.found f hf
    exact ⟨ep2, pss2, by omega, h3⟩
/-- a disk without writes that are pending -/
theorem cont_still {D : Disk} (hp : D.pend = []) {f : Nat → Bs} (hc : Cont D f) : ∀ i, i < D.kept.length → f i = D.look i := fun i hi => poss_still hp (hc i hi)
theorem found_congr {f g : Nat → Bs} {log ep cnt n : Nat} {pss : List (List Pg)} {W : Nat → Bs} (h : FoundF g log ep cnt pss W) (hlog : 1 ≤ log) (hroom : log + cnt * 8 ≤ n) (he : ∀ i, i < n → f i = g i) : FoundF f log ep cnt pss W :=
  found_pages (n := log) h hlog (fun i hi => he i (by omega)) (fun id k hid hk _ => he _ (by omega)) rfl
/-- a new disk, opened first -/
theorem new_rest (n log : Nat) (hn : n ≤ 65536) (h2 : 2 ≤ log) (hcnt : 4 ≤ (n - log) / 8) : Rest (Disk.new n) log 0 ((n - log) / 8) [] (fun _ => zeros 512) := by
  have hl : (Disk.new n).kept.length = n := by simp [Disk.new]
  have hlk : ∀ i, i < n → (Disk.new n).look i = zeros 64 := fun i hi => by simp [Disk.look, Disk.new, lastAt, List.getD_eq_getElem?_getD, hi]
  have hok : (Disk.new n).Ok := ⟨by rw [hl]; omega, by rw [hl]; exact hn, fun s hs => by rw [List.eq_of_mem_replicate hs]; simp [zeros], (fun x hx => by cases hx), by show 0 < _; omega⟩
  have himg : ∀ f : Nat → Bs, (∀ i, i < n → f i = zeros 64) → ∀ id, id < (n - log) / 8 → imgF f log id = zeros 512 := fun f hf id hid => by
    refine imgF_of_sect (zeros_len 512) fun k hk => ?_
    rw [hf _ (by omega)]
    simp only [sect, zeros, List.drop_replicate, List.take_replicate]
    congr 1
    omega
  refine ⟨hok, rfl, h2, by rw [hl]; omega, hcnt, fun f hf => ?_, fun id hid => himg _ hlk id hid⟩
  have hf2 : ∀ i, i < n → f i = zeros 64 := fun i hi => by rw [cont_still rfl hf i (by rw [hl]; exact hi), hlk i hi]
  exact ⟨.inl ⟨hf2 0 (by omega), rfl, rfl⟩, (fun ps hps => by cases hps), fun id hid => himg f hf2 id hid⟩
end Go.Proofs.YthbbammibdhohaaGreatDoor
