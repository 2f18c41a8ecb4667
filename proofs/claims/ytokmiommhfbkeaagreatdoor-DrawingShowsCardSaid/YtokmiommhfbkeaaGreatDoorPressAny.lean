/- The program's Press gives, for every line, history and key, the line that pressL tells. -/
import Derived.Test.YtokmiommhfbkeaaGreatDoorPressE
import Derived.Test.YtokmiommhfbkeaaGreatDoorPressF
import Derived.Test.YtokmiommhfbkeaaGreatDoorPressG
import Derived.Test.YtokmiommhfbkeaaGreatDoorPressH
namespace Go.Proofs.YtokmiommhfbkeaaGreatDoor
open Go.RowKit

theorem press_any (l : EL) (bv hv : Value) (h : List ByteArray) (kind byte : Int) (w : World) (hb0 : ES w bv l.before) (hh : SL w hv h) (hf : Fit l) (hn : h.length ≤ 9223372036854775807) (hs : ∀ s ∈ h, s.size ≤ maxLen) :
    Calls Tryz.prog 14 #[elV2 l bv, hv, .agg #[.int .i64 kind, .int .i64 byte]] w (PressPost w (pressL l h kind byte)) := by
  by_cases h0 : pressedE l h h.length = 0
  · by_cases h1 : keyE kind byte = 0
    · by_cases h19 : kind = 19
      · exact press_undo l bv hv h kind byte w hb0 hh hf hn hs h0 h1 h19
      · by_cases h20 : kind = 20
        · exact press_up l bv hv h kind byte w hb0 hh hf hn hs h0 h1 h20
        · by_cases h21 : kind = 21
          · exact press_down l bv hv h kind byte w hb0 hh hf hn hs h0 h1 h21
          · cases hm : movesB kind
            · by_cases hx : (actD kind byte l.killing ⟨l.text, l.at'.toNat, l.killed, false⟩).text = l.text
              · exact press_same l bv hv h kind byte w hb0 hh hf hn hs h0 h1 h19 h20 h21 hm hx
              · by_cases hk : kind = 1
                · by_cases hp : 0 < l.before.length
                  · cases hq : goesL l
                    · exact press_goes_f l bv hv h kind byte w hb0 hh hf hn hs h0 h1 h19 h20 h21 hm hx ⟨hk, hp⟩ hq
                    · exact press_goes_t l bv hv h kind byte w hb0 hh hf hn hs h0 h1 h19 h20 h21 hm hx ⟨hk, hp⟩ hq
                  · exact press_note_c l bv hv h kind byte w hb0 hh hf hn hs h0 h1 h19 h20 h21 hm hx ⟨hk, List.length_eq_zero_iff.1 (by omega)⟩
                · exact press_note_b l bv hv h kind byte w hb0 hh hf hn hs h0 h1 h19 h20 h21 hm hx hk
            · exact press_move l bv hv h kind byte w hb0 hh hf hn hs h0 h1 h19 h20 h21 hm
    · exact press_err2 l bv hv h kind byte w hb0 hh hf hn hs h0 h1
  · exact press_err1 l bv hv h kind byte w hb0 hh hf hn hs h0

end Go.Proofs.YtokmiommhfbkeaaGreatDoor
