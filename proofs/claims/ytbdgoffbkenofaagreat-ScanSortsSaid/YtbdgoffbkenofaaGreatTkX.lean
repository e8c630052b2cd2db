/- token.Next: whole. -/
import Derived.Test.YtbdgoffbkenofaaGreatTkNe
import Derived.Test.YtbdgoffbkenofaaGreatTkNr
import Derived.Test.YtbdgoffbkenofaaGreatTkNt
import Derived.Test.YtbdgoffbkenofaaGreatTkNl
import Derived.Test.YtbdgoffbkenofaaGreatTkNk
import Derived.Test.YtbdgoffbkenofaaGreatTkS
namespace Go.Proofs.YtbdgoffbkenofaaGreat.Tk
open Go Go.RowKit Go.Proofs.YtbdgoffbkenofaaGreat.Tr
set_option linter.unusedVariables false
set_option maxRecDepth 100000

theorem next_calls (s raw : ByteArray) (hs : s.size ≤ 900000) (hr : raw.size ≤ 900000) (a : Nat) (ha : a ≤ 1000000) (w : World) :
    Calls Tryz.prog 37 #[.string s, .int .i64 (a : Int), .string raw] w (TokEnd (nextP s a raw) w) := by
  by_cases c1 : s.size ≤ a
  · exact nx_end s raw hs hr a ha c1 w
  have c1' : a < s.size := by omega
  by_cases c2 : raw ≠ ⟨#[]⟩ ∧ a < rawEndP s a raw
  · exact nx_raw s raw hs hr a ha c1' c2.1 c2.2 w
  by_cases hraw : raw = ⟨#[]⟩
  · by_cases h60 : bAt s a = 60
    · exact nx_lt1 sorts_attrs s raw hs hr a ha c1' c2 hraw h60 w
    · exact nx_text1 s raw hs hr a ha c1' c2 hraw h60 w
  · by_cases h60 : bAt s a = 60
    · exact nx_lt2 sorts_attrs s raw hs hr a ha c1' c2 hraw h60 w
    · exact nx_text2 s raw hs hr a ha c1' c2 hraw h60 w
end Go.Proofs.YtbdgoffbkenofaaGreat.Tk
