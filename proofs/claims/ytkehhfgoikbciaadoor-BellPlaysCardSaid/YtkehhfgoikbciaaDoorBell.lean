/- Contracts of package bell: Post, Tick, Mask. -/
import Derived.Test.YtkehhfgoikbciaaDoorBellWalks
namespace Go.Proofs.YtkehhfgoikbciaaDoor
open Go.RowKit

theorem bell_post (b : Nat) (s : BS) (w : World) (hb : Blk w b s.cells 141) (hs : s.small) :
    Calls Tryd.prog 22 #[.pointer (some ⟨b, 0, none⟩)] w fun e w' => e = .returned (.tuple #[]) ∧ Blk w' b s.post.cells 141 ∧ Keep (· = b) w w' := by
  obtain ⟨l, d, n, a, r, m⟩ := s
  obtain ⟨n0, n1, a0, a1, r0, r1⟩ := hs
  simp only at n0 n1 a0 a1 r0 r1
  simp only [BS.post, BS.rung]
  cases m with
  | true => rw [if_neg (by simp)]; exact bell_post_m b l d n a r true w hb n0 n1 a0 a1 r0 r1 rfl
  | false =>
    by_cases hl : l ≤ n + 1
    · rw [if_pos ⟨rfl, by first | omega | (simp only; omega), .inl hl⟩]; exact bell_post_l b l d n a r false w hb n0 n1 a0 a1 r0 r1 rfl hl
    · by_cases ha : d ≤ a
      · rw [if_pos ⟨rfl, by first | omega | (simp only; omega), .inr ha⟩]; exact bell_post_a b l d n a r false w hb n0 n1 a0 a1 r0 r1 rfl hl ha
      · rw [if_neg (by first | omega | (simp only; omega))]; exact bell_post_n b l d n a r false w hb n0 n1 a0 a1 r0 r1 rfl hl ha

theorem bell_tick (b : Nat) (s : BS) (w : World) (hb : Blk w b s.cells 141) (hs : s.small) :
    Calls Tryd.prog 23 #[.pointer (some ⟨b, 0, none⟩)] w fun e w' => e = .returned (.tuple #[]) ∧ Blk w' b s.tick.cells 141 ∧ Keep (· = b) w w' := by
  obtain ⟨l, d, n, a, r, m⟩ := s
  obtain ⟨n0, n1, a0, a1, r0, r1⟩ := hs
  simp only at n0 n1 a0 a1 r0 r1
  simp only [BS.tick, BS.rung]
  by_cases hn : n = 0
  · subst hn
    rw [if_neg (show ¬ (0 : Int) < 0 by omega), if_neg (by simp)]
    cases m with
    | true => exact bell_tick_0 b l d 0 a r true w hb n0 n1 a0 a1 r0 r1 rfl rfl
    | false => exact bell_tick_1 b l d 0 a r false w hb n0 n1 a0 a1 r0 r1 rfl rfl
  have hn' : 0 < n := by omega
  rw [if_pos hn']
  cases m with
  | true => rw [if_neg (by simp)]; exact bell_tick_m b l d n a r true w hb n0 n1 a0 a1 r0 r1 hn' rfl
  | false =>
    by_cases hl : l ≤ n
    · rw [if_pos ⟨rfl, hn', .inl hl⟩]; exact bell_tick_l b l d n a r false w hb n0 n1 a0 a1 r0 r1 hn' rfl hl
    · by_cases ha : d ≤ a + 1
      · rw [if_pos ⟨rfl, hn', .inr ha⟩]; exact bell_tick_a b l d n a r false w hb n0 n1 a0 a1 r0 r1 hn' rfl hl ha
      · rw [if_neg (by first | omega | (simp only; omega))]; exact bell_tick_n b l d n a r false w hb n0 n1 a0 a1 r0 r1 hn' rfl hl ha

theorem bell_mask (b : Nat) (s : BS) (on : Bool) (w : World) (hb : Blk w b s.cells 141) (hs : s.small) :
    Calls Tryd.prog 24 #[.pointer (some ⟨b, 0, none⟩), .bool on] w fun e w' => e = .returned (.tuple #[]) ∧ Blk w' b (s.mask on).cells 141 ∧ Keep (· = b) w w' := by
  obtain ⟨l, d, n, a, r, m⟩ := s
  obtain ⟨n0, n1, a0, a1, r0, r1⟩ := hs
  simp only at n0 n1 a0 a1 r0 r1
  simp only [BS.mask, BS.rung]
  by_cases hn : n = 0
  · subst hn
    rw [if_neg (by simp)]
    cases on with
    | true => exact bell_mask_0 b l d 0 a r m true w hb n0 n1 a0 a1 r0 r1 rfl rfl
    | false => exact bell_mask_1 b l d 0 a r m false w hb n0 n1 a0 a1 r0 r1 rfl rfl
  have hn' : 0 < n := by omega
  cases on with
  | true => rw [if_neg (by simp)]; exact bell_mask_m b l d n a r m true w hb n0 n1 a0 a1 r0 r1 hn' rfl
  | false =>
    by_cases hl : l ≤ n
    · rw [if_pos ⟨rfl, hn', .inl hl⟩]; exact bell_mask_l b l d n a r m false w hb n0 n1 a0 a1 r0 r1 hn' rfl hl
    · by_cases ha : d ≤ a
      · rw [if_pos ⟨rfl, hn', .inr ha⟩]; exact bell_mask_a b l d n a r m false w hb n0 n1 a0 a1 r0 r1 hn' rfl hl ha
      · rw [if_neg (by first | omega | (simp only; omega))]; exact bell_mask_n b l d n a r m false w hb n0 n1 a0 a1 r0 r1 hn' rfl hl ha
end Go.Proofs.YtkehhfgoikbciaaDoor
