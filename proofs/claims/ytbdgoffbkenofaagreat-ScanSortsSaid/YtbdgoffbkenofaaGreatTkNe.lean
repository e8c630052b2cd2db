/- token.Next: at the end. -/
import Derived.Test.YtbdgoffbkenofaaGreatTkN
namespace Go.Proofs.YtbdgoffbkenofaaGreat.Tk
open Go Go.RowKit Go.Proofs.YtbdgoffbkenofaaGreat.Tr
set_option linter.unusedVariables false
set_option maxRecDepth 100000

set_option maxHeartbeats 8000000 in
theorem nx_end (s raw : ByteArray) (hs : s.size ≤ 900000) (hr : raw.size ≤ 900000) (a : Nat) (ha : a ≤ 1000000) (c1 : s.size ≤ a) (w : World) :
    Calls Tryz.prog 37 #[.string s, .int .i64 (a : Int), .string raw] w (TokEnd (nextP s a raw) w) := by
  have HS := Lib.hid hs
  have HR := Lib.hid hr
  have h0 : (0 : Int) ≤ (a : Int) := by omega
  have hneg : ¬ (a : Int) < 0 := by omega
  obtain ⟨g1, g2, g3⟩ := nx_boxes s w
  have HI : Hid (NxI s w.heap.size w ((w.alloc (.cells #[.string s] 9)).alloc (.cells #[.int .i64 0, .string ⟨#[]⟩, .string ⟨#[]⟩, .slice none 0 0, .bool false] 27))) := Lib.hid ⟨g2, g3, g1⟩
  obtain ⟨b0, b1, b2, b3, b4⟩ := tbox5 g3
  obtain ⟨f0, f1, f2, f3, f4⟩ := tfrz5 g3
  clear hs hr g1 g2 g3
  have hz : (s.size : Int) ≤ (a : Int) := by omega
  have HV := Lib.hid (next_end s raw a c1)
  clear c1
  go_enter Tryz.func37, Tryz.ntmps37
  go_wp2_with fail
  rw [HV.out]
  have c0 := HI.out.cell
  generalize ((w.alloc (.cells #[.string s] 9)).alloc (.cells #[.int .i64 0, .string ⟨#[]⟩, .string ⟨#[]⟩, .slice none 0 0, .bool false] 27)) = w2 at *
  go_region
  go_wp2_with fail
  rw [HV.out]
  exact tok_post (⟨6, ⟨#[]⟩, ⟨#[]⟩, [], false⟩, s.size, true) w 6 7 8 (w.heap.size + 1) none 0 rfl rfl rfl rfl (set5_blk HI.out.res _ _ _ _ _) (isAttrs_nil _ _) ((HI.out.end_ _ _ _ _ _).drew) (fun _ h => nomatch h)
end Go.Proofs.YtbdgoffbkenofaaGreat.Tk
