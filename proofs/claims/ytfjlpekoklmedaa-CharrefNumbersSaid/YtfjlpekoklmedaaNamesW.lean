/- The maker of the map of names, walked. -/
import Derived.Test.YtfjlpekoklmedaaNames
namespace Go.Proofs.Ytfjlpekoklmedaa.Ss
open Go Go.RowKit

theorem small {k : ByteArray} (h : k.size ≤ 100) : k.size ≤ maxLen := Nat.le_trans h (by unfold maxLen; omega)
theorem room {n : Nat} (h : n ≤ 1000) : n < maxLen := Nat.lt_of_le_of_lt h (by unfold maxLen; omega)
/-- The first ones, in a world that has just got the empty map. -/
theorem base_put (w : World) : ∃ W1 W2 W3 W4 W5 W6 W7 W8 W9 W10 W11 W12 W13 W14 W15 W16 W17 W18 W19 W20 W21,
    (Instr.mapUpdate 46 (.map (some w.heap.size)) (.string ⟨#[97, 112, 111, 115, 59]⟩) (.string ⟨#[39]⟩)).run Try.prog (w.alloc (.map #[] 0)) = .ok () W1 ∧
    (Instr.mapUpdate 46 (.map (some w.heap.size)) (.string ⟨#[116, 114, 97, 100, 101, 59]⟩) (.string ⟨#[226, 132, 162]⟩)).run Try.prog W1 = .ok () W2 ∧
    (Instr.mapUpdate 46 (.map (some w.heap.size)) (.string ⟨#[104, 101, 108, 108, 105, 112, 59]⟩) (.string ⟨#[226, 128, 166]⟩)).run Try.prog W2 = .ok () W3 ∧
    (Instr.mapUpdate 46 (.map (some w.heap.size)) (.string ⟨#[109, 100, 97, 115, 104, 59]⟩) (.string ⟨#[226, 128, 148]⟩)).run Try.prog W3 = .ok () W4 ∧
    (Instr.mapUpdate 46 (.map (some w.heap.size)) (.string ⟨#[110, 100, 97, 115, 104, 59]⟩) (.string ⟨#[226, 128, 147]⟩)).run Try.prog W4 = .ok () W5 ∧
    (Instr.mapUpdate 46 (.map (some w.heap.size)) (.string ⟨#[108, 115, 113, 117, 111, 59]⟩) (.string ⟨#[226, 128, 152]⟩)).run Try.prog W5 = .ok () W6 ∧
    (Instr.mapUpdate 46 (.map (some w.heap.size)) (.string ⟨#[114, 115, 113, 117, 111, 59]⟩) (.string ⟨#[226, 128, 153]⟩)).run Try.prog W6 = .ok () W7 ∧
    (Instr.mapUpdate 46 (.map (some w.heap.size)) (.string ⟨#[108, 100, 113, 117, 111, 59]⟩) (.string ⟨#[226, 128, 156]⟩)).run Try.prog W7 = .ok () W8 ∧
    (Instr.mapUpdate 46 (.map (some w.heap.size)) (.string ⟨#[114, 100, 113, 117, 111, 59]⟩) (.string ⟨#[226, 128, 157]⟩)).run Try.prog W8 = .ok () W9 ∧
    (Instr.mapUpdate 46 (.map (some w.heap.size)) (.string ⟨#[98, 117, 108, 108, 59]⟩) (.string ⟨#[226, 128, 162]⟩)).run Try.prog W9 = .ok () W10 ∧
    (Instr.mapUpdate 46 (.map (some w.heap.size)) (.string ⟨#[101, 117, 114, 111, 59]⟩) (.string ⟨#[226, 130, 172]⟩)).run Try.prog W10 = .ok () W11 ∧
    (Instr.mapUpdate 46 (.map (some w.heap.size)) (.string ⟨#[97, 108, 112, 104, 97, 59]⟩) (.string ⟨#[206, 177]⟩)).run Try.prog W11 = .ok () W12 ∧
    (Instr.mapUpdate 46 (.map (some w.heap.size)) (.string ⟨#[98, 101, 116, 97, 59]⟩) (.string ⟨#[206, 178]⟩)).run Try.prog W12 = .ok () W13 ∧
    (Instr.mapUpdate 46 (.map (some w.heap.size)) (.string ⟨#[112, 105, 59]⟩) (.string ⟨#[207, 128]⟩)).run Try.prog W13 = .ok () W14 ∧
    (Instr.mapUpdate 46 (.map (some w.heap.size)) (.string ⟨#[105, 110, 102, 105, 110, 59]⟩) (.string ⟨#[226, 136, 158]⟩)).run Try.prog W14 = .ok () W15 ∧
    (Instr.mapUpdate 46 (.map (some w.heap.size)) (.string ⟨#[110, 111, 116, 105, 110, 59]⟩) (.string ⟨#[226, 136, 137]⟩)).run Try.prog W15 = .ok () W16 ∧
    (Instr.mapUpdate 46 (.map (some w.heap.size)) (.string ⟨#[110, 111, 116, 110, 105, 59]⟩) (.string ⟨#[226, 136, 140]⟩)).run Try.prog W16 = .ok () W17 ∧
    (Instr.mapUpdate 46 (.map (some w.heap.size)) (.string ⟨#[110, 101, 59]⟩) (.string ⟨#[226, 137, 160]⟩)).run Try.prog W17 = .ok () W18 ∧
    (Instr.mapUpdate 46 (.map (some w.heap.size)) (.string ⟨#[108, 101, 59]⟩) (.string ⟨#[226, 137, 164]⟩)).run Try.prog W18 = .ok () W19 ∧
    (Instr.mapUpdate 46 (.map (some w.heap.size)) (.string ⟨#[103, 101, 59]⟩) (.string ⟨#[226, 137, 165]⟩)).run Try.prog W19 = .ok () W20 ∧
    (Instr.mapUpdate 46 (.map (some w.heap.size)) (.string ⟨#[102, 106, 108, 105, 103, 59]⟩) (.string ⟨#[102, 106]⟩)).run Try.prog W20 = .ok () W21 ∧
    owns W21 w.heap.size 21 base ∧ Below w.heap.size w W21 := by
  have B0 : Below w.heap.size w (w.alloc (.map #[] 0)) := (Below.refl _ _).alloc (Nat.le_refl _) _
  obtain ⟨W1, h1, o1, g1⟩ := put (owns_made w) ⟨#[97, 112, 111, 115, 59]⟩ ⟨#[39]⟩ (small (by decide)) (small (by decide)) (room (by decide))
  have B1 := B0.grown g1 B0.size (fun k hk => by cases hk; exact Nat.le_refl _)
  obtain ⟨W2, h2, o2, g2⟩ := put o1 ⟨#[116, 114, 97, 100, 101, 59]⟩ ⟨#[226, 132, 162]⟩ (small (by decide)) (small (by decide)) (room (by decide))
  have B2 := B1.grown g2 B1.size (fun k hk => by cases hk; exact Nat.le_refl _)
  obtain ⟨W3, h3, o3, g3⟩ := put o2 ⟨#[104, 101, 108, 108, 105, 112, 59]⟩ ⟨#[226, 128, 166]⟩ (small (by decide)) (small (by decide)) (room (by decide))
  have B3 := B2.grown g3 B2.size (fun k hk => by cases hk; exact Nat.le_refl _)
  obtain ⟨W4, h4, o4, g4⟩ := put o3 ⟨#[109, 100, 97, 115, 104, 59]⟩ ⟨#[226, 128, 148]⟩ (small (by decide)) (small (by decide)) (room (by decide))
  have B4 := B3.grown g4 B3.size (fun k hk => by cases hk; exact Nat.le_refl _)
  obtain ⟨W5, h5, o5, g5⟩ := put o4 ⟨#[110, 100, 97, 115, 104, 59]⟩ ⟨#[226, 128, 147]⟩ (small (by decide)) (small (by decide)) (room (by decide))
  have B5 := B4.grown g5 B4.size (fun k hk => by cases hk; exact Nat.le_refl _)
  obtain ⟨W6, h6, o6, g6⟩ := put o5 ⟨#[108, 115, 113, 117, 111, 59]⟩ ⟨#[226, 128, 152]⟩ (small (by decide)) (small (by decide)) (room (by decide))
  have B6 := B5.grown g6 B5.size (fun k hk => by cases hk; exact Nat.le_refl _)
  obtain ⟨W7, h7, o7, g7⟩ := put o6 ⟨#[114, 115, 113, 117, 111, 59]⟩ ⟨#[226, 128, 153]⟩ (small (by decide)) (small (by decide)) (room (by decide))
  have B7 := B6.grown g7 B6.size (fun k hk => by cases hk; exact Nat.le_refl _)
  obtain ⟨W8, h8, o8, g8⟩ := put o7 ⟨#[108, 100, 113, 117, 111, 59]⟩ ⟨#[226, 128, 156]⟩ (small (by decide)) (small (by decide)) (room (by decide))
  have B8 := B7.grown g8 B7.size (fun k hk => by cases hk; exact Nat.le_refl _)
  obtain ⟨W9, h9, o9, g9⟩ := put o8 ⟨#[114, 100, 113, 117, 111, 59]⟩ ⟨#[226, 128, 157]⟩ (small (by decide)) (small (by decide)) (room (by decide))
  have B9 := B8.grown g9 B8.size (fun k hk => by cases hk; exact Nat.le_refl _)
  obtain ⟨W10, h10, o10, g10⟩ := put o9 ⟨#[98, 117, 108, 108, 59]⟩ ⟨#[226, 128, 162]⟩ (small (by decide)) (small (by decide)) (room (by decide))
  have B10 := B9.grown g10 B9.size (fun k hk => by cases hk; exact Nat.le_refl _)
  obtain ⟨W11, h11, o11, g11⟩ := put o10 ⟨#[101, 117, 114, 111, 59]⟩ ⟨#[226, 130, 172]⟩ (small (by decide)) (small (by decide)) (room (by decide))
  have B11 := B10.grown g11 B10.size (fun k hk => by cases hk; exact Nat.le_refl _)
  obtain ⟨W12, h12, o12, g12⟩ := put o11 ⟨#[97, 108, 112, 104, 97, 59]⟩ ⟨#[206, 177]⟩ (small (by decide)) (small (by decide)) (room (by decide))
  have B12 := B11.grown g12 B11.size (fun k hk => by cases hk; exact Nat.le_refl _)
  obtain ⟨W13, h13, o13, g13⟩ := put o12 ⟨#[98, 101, 116, 97, 59]⟩ ⟨#[206, 178]⟩ (small (by decide)) (small (by decide)) (room (by decide))
  have B13 := B12.grown g13 B12.size (fun k hk => by cases hk; exact Nat.le_refl _)
  obtain ⟨W14, h14, o14, g14⟩ := put o13 ⟨#[112, 105, 59]⟩ ⟨#[207, 128]⟩ (small (by decide)) (small (by decide)) (room (by decide))
  have B14 := B13.grown g14 B13.size (fun k hk => by cases hk; exact Nat.le_refl _)
  obtain ⟨W15, h15, o15, g15⟩ := put o14 ⟨#[105, 110, 102, 105, 110, 59]⟩ ⟨#[226, 136, 158]⟩ (small (by decide)) (small (by decide)) (room (by decide))
  have B15 := B14.grown g15 B14.size (fun k hk => by cases hk; exact Nat.le_refl _)
  obtain ⟨W16, h16, o16, g16⟩ := put o15 ⟨#[110, 111, 116, 105, 110, 59]⟩ ⟨#[226, 136, 137]⟩ (small (by decide)) (small (by decide)) (room (by decide))
  have B16 := B15.grown g16 B15.size (fun k hk => by cases hk; exact Nat.le_refl _)
  obtain ⟨W17, h17, o17, g17⟩ := put o16 ⟨#[110, 111, 116, 110, 105, 59]⟩ ⟨#[226, 136, 140]⟩ (small (by decide)) (small (by decide)) (room (by decide))
  have B17 := B16.grown g17 B16.size (fun k hk => by cases hk; exact Nat.le_refl _)
  obtain ⟨W18, h18, o18, g18⟩ := put o17 ⟨#[110, 101, 59]⟩ ⟨#[226, 137, 160]⟩ (small (by decide)) (small (by decide)) (room (by decide))
  have B18 := B17.grown g18 B17.size (fun k hk => by cases hk; exact Nat.le_refl _)
  obtain ⟨W19, h19, o19, g19⟩ := put o18 ⟨#[108, 101, 59]⟩ ⟨#[226, 137, 164]⟩ (small (by decide)) (small (by decide)) (room (by decide))
  have B19 := B18.grown g19 B18.size (fun k hk => by cases hk; exact Nat.le_refl _)
  obtain ⟨W20, h20, o20, g20⟩ := put o19 ⟨#[103, 101, 59]⟩ ⟨#[226, 137, 165]⟩ (small (by decide)) (small (by decide)) (room (by decide))
  have B20 := B19.grown g20 B19.size (fun k hk => by cases hk; exact Nat.le_refl _)
  obtain ⟨W21, h21, o21, g21⟩ := put o20 ⟨#[102, 106, 108, 105, 103, 59]⟩ ⟨#[102, 106]⟩ (small (by decide)) (small (by decide)) (room (by decide))
  have B21 := B20.grown g21 B20.size (fun k hk => by cases hk; exact Nat.le_refl _)
  exact ⟨W1, W2, W3, W4, W5, W6, W7, W8, W9, W10, W11, W12, W13, W14, W15, W16, W17, W18, W19, W20, W21, h1, h2, h3, h4, h5, h6, h7, h8, h9, h10, h11, h12, h13, h14, h15, h16, h17, h18, h19, h20, h21, o21, B21⟩

set_option maxHeartbeats 1000000 in
set_option maxRecDepth 100000 in
theorem names_calls (w : World) :
    Calls Try.prog 29 #[] w fun e w' => e = .returned (.map (some w.heap.size)) ∧ owns w' w.heap.size 85 (pairsTo 32) ∧ Below w.heap.size w w' := by
  obtain ⟨W1, W2, W3, W4, W5, W6, W7, W8, W9, W10, W11, W12, W13, W14, W15, W16, W17, W18, W19, W20, W21, h1, h2, h3, h4, h5, h6, h7, h8, h9, h10, h11, h12, h13, h14, h15, h16, h17, h18, h19, h20, h21, o21, B21⟩ := base_put w
  have hmm := @run_makeMap Try.prog
  go_enter Try.func29, Try.ntmps29
  go_wp2
  rw [← tabV_is]
  clear h1 h2 h3 h4 h5 h6 h7 h8 h9 h10 h11 h12 h13 h14 h15 h16 h17 h18 h19 h20 h21 hmm
  go_loopw [39] (fun i wr => ∃ k : Nat, k ≤ 32 ∧ i = .int .i64 k ∧ owns wr w.heap.size (21 + 2 * k) (pairsTo k) ∧ Below w.heap.size w wr) (fun i _ => 32 - (intOf i).toNat)
  case atStart => exact ⟨0, by omega, rfl, by rw [pairs_zero]; exact o21, B21⟩
  case round =>
    obtain ⟨k, hk, rfl, hown, hbel⟩ := hrel
    have hbs := hbel.size
    by_cases hlt : k < 32
    · have hix := tab_index k hlt
      have hs := nm_small k
      have hs1 := hs.1
      have hs2 := hs.2
      obtain ⟨W1, h1, o1, g1⟩ := put ((hown.alloc (.cells #[.string (nm k), .string (sg k)] 65)).drew) (nm k) (sg k) (small (by omega)) (small (by omega)) (room (by omega))
      obtain ⟨W2, h2, o2, g2⟩ := put o1 (nm k ++ ⟨#[59]⟩) (sg k) (small (by have := semi_small k; omega)) (small (by omega)) (room (by omega))
      rw [← pairs_succ] at o2
      have B2 : Below w.heap.size w W2 := ((((hbel.alloc hbs _).drew).grown g1 (by simp; omega) (fun k hk => by cases hk; exact Nat.le_refl _)).grown g2 (Nat.le_trans (by simp; omega) g1.size) (fun k hk => by cases hk; exact Nat.le_refl _))
      have c0 : W1.cell? ⟨wr.heap.size, 0, none⟩ = some (.string (nm k)) := (World.cell?_of_block (g1.block wr.heap.size (by simp) (by have := hown.lt; simp; omega))).trans (by go_cell)
      have c1 : W1.cell? ⟨wr.heap.size, 1, none⟩ = some (.string (sg k)) := (World.cell?_of_block (g1.block wr.heap.size (by simp) (by have := hown.lt; simp; omega))).trans (by go_cell)
      clear o1 g1 g2 hown hbel hs
      go_wp2
      go_region
      all_goals go_wp2
      all_goals
        go_roundw
        case rel => exact ⟨k + 1, by omega, by go_num, by rw [show 21 + 2 * (k + 1) = 21 + 2 * k + 1 + 1 from by omega]; exact o2, B2⟩
        case measure => simp [intOf]; omega
    · obtain rfl : k = 32 := by omega
      go_wp2
      go_ret
      exact ⟨rfl, hown, hbel⟩
end Go.Proofs.Ytfjlpekoklmedaa.Ss
