/- The document's Run has what the program has. Conditions: those that each theorem names. -/
import Derived.Test.YtpmgkmodpneiiaaRnn
namespace Go.Proofs.Ytpmgkmodpneiiaa.E
open Go.RowKit Go.Sort Go.Shelf
open Go.Proofs.Ytpmgkmodpneiiaa.Ma
set_option linter.unusedVariables false
set_option linter.unusedSimpArgs false
theorem firstB_at {n s : Nat} (hs : s < n) (v : Nat) (hv : v < n) : at_ (firstB n s) v = if v = s then 0 else farN := by
  unfold firstB
  rw [at_set (by simpa using hs)]
  congr 1
  simp [at_, List.getD, hv]
theorem far_lt : farN < M64 := by decide
theorem docrun_ok (A : Option Addr) (c n : Nat) (L : List Ed) (k a p d : Int) (w : World) (hL : Lies enc2 2 w A L) (h : refC n L k a p = 0) :
    Calls Try.prog 14 #[.int .i64 (n : Int), .slice A L.length c, rq k a p d] w fun e w' => ∃ g c2, e = .returned (.tuple #[.slice (some ⟨g, 0, none⟩) n c2, .int .i64 ((job n L k a).2 : Nat), .int .i64 0]) ∧ PB w' g (job n L k a).1 ∧ w.heap.size ≤ g ∧ Below w.heap.size w w' := by
  obtain ⟨N, hN, hn1, hn2, hE, _, _, hck, hlen⟩ := refC_zero h
  obtain rfl : n = N := by omega
  have hn : 1 ≤ n ∧ n ≤ 256 := ⟨hn1, hn2⟩
  have hl5 : L.length ≤ 5000 := by omega
  have hfar : n < farN := by unfold farN; omega
  have h1000 : (1000 : Nat) < farN := by decide
  rcases arg_zero hck with ⟨rfl, ha, hb⟩ | ⟨rfl, ha, hb⟩ | ⟨rfl, rfl⟩ | ⟨rfl, ha, hb⟩
  · obtain ⟨s, rfl⟩ : ∃ s : Nat, a = (s : Int) := ⟨a.toNat, by omega⟩
    have hs : s < n := by omega
    have hd := dst_bfs (rows_out hE) (ofOut_row hE).1.symm hn2 hs
    rw [leads_out hE] at hd
    have hj : job n L 1 (s : Int) = (bfs (ofOut n L) s, grt (bfs (ofOut n L) s) + 1) := by unfold job; rw [if_pos rfl, Int.toNat_natCast]
    rw [hj]
    obtain ⟨r1, r2, r3⟩ := roundsB hE hd hs (by omega)
    have hg := grt_lt hd hn1
    have hit : ∀ m, m ≤ grt (bfs (ofOut n L) s) + 1 → iter (fun x => nextB x L) (firstB n s) m = lvl m (bfs (ofOut n L) s) := fun m hm => iterB hE hd hs hfar m (by omega)
    have hlen2 : ∀ m, m ≤ grt (bfs (ofOut n L) s) + 1 → (iter (fun x => nextB x L) (firstB n s) m).length = n := fun m hm => by rw [hit m hm, lvl_len]; exact hd.len
    have hsm : ∀ m, m ≤ grt (bfs (ofOut n L) s) + 1 → Small (iter (fun x => nextB x L) (firstB n s) m) := fun m hm v hv => by
      rw [hit m hm, lvl_at]
      have := far_lt
      split <;> omega
    have := run_gen A c n L 1 (s : Int) p d w hL hn h (iter (fun x => nextB x L) (firstB n s)) (grt (bfs (ofOut n L) s) + 1) (by omega) hlen2
      (fun V => first_at n 1 (s : Int) p d (firstB n s) V hn1 hn2 (by simp [firstB]) (.inl ⟨rfl, s, rfl, fun v hv => firstB_at hs v hv⟩))
      (fun m g c2 V hm hp hl => next1_at g n c2 _ A c L (s : Int) p d V hp (hlen2 m (by omega)) hn1 hn2 hl hE hl5 (hsm m (by omega)))
      (.inr ⟨by decide, by rw [Nat.add_sub_cancel, r1, r2], fun m hm => r3 m (by omega)⟩)
    rw [r1] at this
    exact this
  · obtain ⟨s, rfl⟩ : ∃ s : Nat, a = (s : Int) := ⟨a.toNat, by omega⟩
    have hj : job n L 2 (s : Int) = (ranks (ofOut n L) s, s) := by unfold job; rw [if_neg (by decide), if_pos rfl, Int.toNat_natCast]
    rw [hj]
    have hal := (ofOut_row hE).1
    have hit : ∀ m, iter (fun x => nextR x L) (List.replicate n 4294967296) m = ranks (ofOut n L) m := fun m => roundsR hE m
    have hlen2 : ∀ m, (iter (fun x => nextR x L) (List.replicate n 4294967296) m).length = n := fun m => by rw [hit m, ranks_len, hal]
    have hsm : ∀ m, Small (iter (fun x => nextR x L) (List.replicate n 4294967296) m) := fun m v hv => by
      rw [hlen2 m] at hv
      rw [hit m]
      exact ranks_lt _ m v (by rw [hal]; exact hv)
    have := run_gen A c n L 2 (s : Int) p d w hL hn h (iter (fun x => nextR x L) (List.replicate n 4294967296)) s (by omega) (fun m _ => hlen2 m)
      (fun V => first_at n 2 (s : Int) p d (List.replicate n 4294967296) V hn1 hn2 (by simp) (.inr (.inl ⟨rfl, fun v hv => by simp [at_, List.getD, hv]⟩)))
      (fun m g c2 V hm hp hl => next2_at g n c2 _ A c L (s : Int) p d V hp (hlen2 m) hn1 hn2 hl hE hl5 (hsm m))
      (.inl ⟨rfl, rfl⟩)
    rw [hit s] at this
    exact this
  · have hal := (ofAll_row hE).1
    have hD : ∀ x, x < n → Dst n (Both L) x (bfs (ofAll n L) x) := fun x hx => by
      have := dst_bfs (rows_all hE) hal.symm hn2 hx
      rw [leads_all hE] at this
      exact this
    have hlab := labs_lab (both_symm L) hal hfar hD
    have hj : job n L 3 0 = ((labs (ofAll n L)).1, (labs (ofAll n L)).2 + 1) := by unfold job; rw [if_neg (by decide), if_neg (by decide), if_pos rfl]
    rw [hj]
    obtain ⟨r1, r2, r3⟩ := roundsL hE (by omega) hD hlab
    have hmost : (labs (ofAll n L)).2 ≤ n := by
      rcases hlab.hit with h0 | ⟨u, hu, q⟩
      · omega
      · have := (hD _ (by have := hlab.le u hu; omega)).lt u (hlab.got u hu)
        omega
    have hit : ∀ m, m ≤ (labs (ofAll n L)).2 + 1 → (iter (fun x => nextL x L) (List.range n) m).length = n ∧ Small (iter (fun x => nextL x L) (List.range n) m) := fun m hm => by
      obtain ⟨q1, q2⟩ := iterL hE hD m (by omega)
      refine ⟨q1, fun v hv => ?_⟩
      rw [q1] at hv
      have := (q2 v hv).1.1
      have := far_lt
      omega
    have := run_gen A c n L 3 0 p d w hL hn h (iter (fun x => nextL x L) (List.range n)) ((labs (ofAll n L)).2 + 1) (by omega) (fun m hm => (hit m hm).1)
      (fun V => first_at n 3 0 p d (List.range n) V hn1 hn2 (by simp) (.inr (.inr (.inl ⟨rfl, fun v hv => by simp [at_, List.getD, hv]⟩))))
      (fun m g c2 V hm hp hl => next3_at g n c2 _ A c L 0 p d V hp (hit m (by omega)).1 hn1 hn2 hl hE hl5 (hit m (by omega)).2)
      (.inr ⟨by decide, by rw [Nat.add_sub_cancel, r1, r2], fun m hm => r3 m (by omega)⟩)
    rw [r1] at this
    exact this
  · obtain ⟨s, rfl⟩ : ∃ s : Nat, a = (s : Int) := ⟨a.toNat, by omega⟩
    have hl : L.length ≤ 100000 := by omega
    obtain ⟨k1, q1, q2, q3, q4⟩ := roundsC (n := n) (a := s) hE hl
    have hj : job n L 4 (s : Int) = (iterC s n L k1, k1 + 1) := by unfold job; rw [if_neg (by decide), if_neg (by decide), if_neg (by decide), Int.toNat_natCast, q1]
    rw [hj]
    have hit := fun m => iterC_bits (a := s) hE hl m
    have hsm : ∀ m, Small (iterC s n L m) := fun m v hv => by
      have := (hit m).2 v hv
      unfold M64
      omega
    have := run_gen A c n L 4 (s : Int) p d w hL hn h (iterC s n L) (k1 + 1) (by omega) (fun m _ => (hit m).1)
      (fun V => first_at n 4 (s : Int) p d (List.replicate n 1) V hn1 hn2 (by simp) (.inr (.inr (.inr ⟨rfl, fun v hv => by simp [at_, List.getD, hv]⟩))))
      (fun m g c2 V hm hp hl' => next4_at g n c2 _ A c L (s : Int) p d V hp (hit m).1 hn1 hn2 hl' hE hl5 (hsm m) s rfl (by omega))
      (.inr ⟨by decide, by rw [Nat.add_sub_cancel]; exact q3, fun m hm => q4 m (by omega)⟩)
    rw [q3] at this
    exact this
end Go.Proofs.Ytpmgkmodpneiiaa.E
