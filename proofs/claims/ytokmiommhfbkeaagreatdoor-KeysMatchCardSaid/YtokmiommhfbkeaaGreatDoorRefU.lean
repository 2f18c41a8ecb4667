/- The reference's Press gives the line that pressL tells: any line, history and key. -/
import Derived.Test.YtokmiommhfbkeaaGreatDoorRefSB
import Derived.Test.YtokmiommhfbkeaaGreatDoorRefSC
import Derived.Test.YtokmiommhfbkeaaGreatDoorRefSD
import Derived.Test.YtokmiommhfbkeaaGreatDoorESE
namespace Go.Proofs.YtokmiommhfbkeaaGreatDoor
open Go.RowKit

theorem rPress_any (l : EL) (bv hv : Value) (h : List ByteArray) (kind byte : Int) (w : World) (hb0 : ES w bv l.before) (hh : SL w hv h) (hf : Fit l) (hn : h.length ≤ 9223372036854775807) (hs : ∀ s ∈ h, s.size ≤ maxLen) :
    Calls Tryz.prog 16 #[elV2 l bv, hv, .agg #[.int .i64 kind, .int .i64 byte]] w (PressPost w (pressL l h kind byte)) := by
  by_cases h0 : pressedE l h h.length = 0
  · by_cases h1 : keyE kind byte = 0
    · by_cases h19 : kind = 19
      · have hby : byte = 0 := by rcases keyE_good h1 with hk | hk | hk <;> omega
        rcases nil_or_snoc l.before with he | ⟨pre, ⟨s, i⟩, he⟩
        · exact rPress_undo0 l bv hv h kind byte w hb0 hh hf hn hs h0 h1 h19 hby he
        · obtain ⟨k, hk, _, _⟩ := (good_of h0).state (s, i) (by rw [he]; simp)
          dsimp only at hk
          subst hk
          exact rPress_undo1 l bv hv h kind byte w hb0 hh hf hn hs h0 h1 h19 hby pre s k _ he rfl
      · by_cases h20 : kind = 20
        · have hby : byte = 0 := by rcases keyE_good h1 with hk | hk | hk <;> omega
          exact rPress_up l bv hv h kind byte w hb0 hh hf hn hs h0 h1 h20 hby
        · by_cases h21 : kind = 21
          · have hby : byte = 0 := by rcases keyE_good h1 with hk | hk | hk <;> omega
            exact rPress_down l bv hv h kind byte w hb0 hh hf hn hs h0 h1 h21 hby
          · rcases keyE_good h1 with hk | hk | hk
            · by_cases hx : (actD kind byte l.killing ⟨l.text, l.at'.toNat, l.killed, false⟩).text = l.text
              · rcases nil_or_snoc l.before with he | ⟨pre, ⟨s, i⟩, he⟩
                · exact rPress_act_1n_same l bv hv h kind byte w hb0 hh hf hn hs h0 h1 hk he hx
                · obtain ⟨k, hk2, _, _⟩ := (good_of h0).state (s, i) (by rw [he]; simp)
                  dsimp only at hk2
                  subst hk2
                  exact rPress_act_1s_same l bv hv h kind byte w hb0 hh hf hn hs h0 h1 hk pre s k _ he rfl hx
              · rcases nil_or_snoc l.before with he | ⟨pre, ⟨s, i⟩, he⟩
                · exact rPress_act_1n_part l bv hv h kind byte w hb0 hh hf hn hs h0 h1 hk he hx (by rw [he]; decide)
                · obtain ⟨k, hk2, _, _⟩ := (good_of h0).state (s, i) (by rw [he]; simp)
                  dsimp only at hk2
                  subst hk2
                  cases hgo : goesB (s, (k : Int)) l.text l.at'.toNat
                  · by_cases hfull : l.before.length = 100
                    · exact rPress_act_1s_full l bv hv h kind byte w hb0 hh hf hn hs h0 h1 hk pre s k _ he rfl hx hfull hgo
                    · exact rPress_act_1s_part l bv hv h kind byte w hb0 hh hf hn hs h0 h1 hk pre s k _ he rfl hx (by have := (good_of h0).len; omega) hgo
                  · exact rPress_act_1s_goes l bv hv h kind byte w hb0 hh hf hn hs h0 h1 hk pre s k _ he rfl hx hgo
            · by_cases hx : (actD kind byte l.killing ⟨l.text, l.at'.toNat, l.killed, false⟩).text = l.text
              · exact rPress_act_22_same l bv hv h kind byte w hb0 hh hf hn hs h0 h1 hk hx
              · by_cases hfull : l.before.length = 100
                · exact rPress_act_22_full l bv hv h kind byte w hb0 hh hf hn hs h0 h1 hk hx hfull
                · exact rPress_act_22_part l bv hv h kind byte w hb0 hh hf hn hs h0 h1 hk hx (by have := (good_of h0).len; omega)
            · by_cases hx : (actD kind byte l.killing ⟨l.text, l.at'.toNat, l.killed, false⟩).text = l.text
              · exact rPress_act_gen_same l bv hv h kind byte w hb0 hh hf hn hs h0 h1 h19 h20 h21 hk hx
              · by_cases hfull : l.before.length = 100
                · exact rPress_act_gen_full l bv hv h kind byte w hb0 hh hf hn hs h0 h1 h19 h20 h21 hk hx hfull
                · exact rPress_act_gen_part l bv hv h kind byte w hb0 hh hf hn hs h0 h1 h19 h20 h21 hk hx (by have := (good_of h0).len; omega)
    · exact rPress_err2 l bv hv h kind byte w hb0 hh hf hn hs h0 h1
  · exact rPress_err1 l bv hv h kind byte w hb0 hh hf hn hs h0

set_option maxRecDepth 100000 in
set_option maxHeartbeats 1600000 in
theorem listeq_any (l : List (ByteArray × Int)) (v u : Value) (w : World) (hv : ES w v l) (hu : ES w u l) (hn : l.length ≤ 9223372036854775807) :
    Calls Tryz.prog 155 #[v, u] w fun e w' => e = .returned (.bool true) ∧ Below w.heap.size w w' := by
  have hE := Lib.hid (equalStates_any l l v u w hv hu hn)
  rw [decide_eq_true rfl] at hE
  clear hv hu
  go_enter Tryz.func155, Tryz.ntmps155
  go_wp2_with fail
  refine hE.out.mono ?_
  rintro e w1 ⟨rfl, hb1⟩
  go_wp2
  go_ret
  exact ⟨rfl, hb1⟩

set_option maxRecDepth 100000 in
set_option maxHeartbeats 1600000 in
theorem eqLine_any (l : EL) (v u : Value) (w : World) (hv : ES w v l.before) (hu : ES w u l.before) (hn : l.before.length ≤ 9223372036854775807) :
    Calls Tryz.prog 96 #[elV2 l v, elV2 l u] w fun e w' => e = .returned (.bool true) ∧ Below w.heap.size w w' := by
  have hE := Lib.hid (fun W (hb : Below w.heap.size w W) => listeq_any l.before v u W (hv.keep hb) (hu.keep hb) hn)
  have HB := Lib.hid (fun o1 o2 => (((Below.refl _ w).alloc (Nat.le_refl _) o1).alloc (by simp) o2))
  clear hv hu
  obtain ⟨text, a, killed, killing, before, place, begun⟩ := l
  dsimp only at *
  go_enter Tryz.func96, Tryz.ntmps96
  go_wp2_with fail
  refine (hE.out _ (HB.out _ _)).mono ?_
  rintro e w1 ⟨rfl, hb1⟩
  have HB1 := Lib.hid ((HB.out _ _).trans (hb1.mono (HB.out _ _).size))
  have hc : ∀ g j, g < ((w.alloc (.cells #[.string text, .int .i64 a, .string killed, .bool killing, v, .int .i64 place, .string begun] 37)).alloc (.cells #[.string text, .int .i64 a, .string killed, .bool killing, u, .int .i64 place, .string begun] 37)).heap.size → w1.cell? ⟨g, j, none⟩ = ((w.alloc (.cells #[.string text, .int .i64 a, .string killed, .bool killing, v, .int .i64 place, .string begun] 37)).alloc (.cells #[.string text, .int .i64 a, .string killed, .bool killing, u, .int .i64 place, .string begun] 37)).cell? ⟨g, j, none⟩ := fun g j hg => hb1.cell (p := ⟨g, j, none⟩) hg
  have c1 : ∀ j, w1.cell? ⟨w.heap.size, j, none⟩ = #[Value.string text, .int .i64 a, .string killed, .bool killing, v, .int .i64 place, .string begun][j]? := fun j => by
    rw [hc _ _ (by simp; omega), World.cell?_alloc_lt _ _ _ (by simp), World.cell?_alloc_at _ _ _ _ rfl]
  have c2 : ∀ j, w1.cell? ⟨w.heap.size + 1, j, none⟩ = #[Value.string text, .int .i64 a, .string killed, .bool killing, u, .int .i64 place, .string begun][j]? := fun j => by
    rw [hc _ _ (by simp), World.cell?_alloc_at _ _ _ _ (by simp)]
  clear hb1 hc
  go_wp2
  go_ret
  exact ⟨rfl, HB1.out⟩

theorem ta_expr (x : Value) (w : World) : (Instr.typeAssert (.iface 37 x) 20 143 true).run Tryz.prog w = .ok (.tuple #[.agg #[.string ⟨#[]⟩, .int .i64 0, .string ⟨#[]⟩, .slice none 0 0], .bool false]) w := by kernel_rfl
theorem ta_node (x : Value) (w : World) : (Instr.typeAssert (.iface 37 x) 20 153 true).run Tryz.prog w = .ok (.tuple #[.agg #[.int .i64 0, .bool false, .bool false, .string ⟨#[]⟩, .slice none 0 0, .slice none 0 0, .slice none 0 0, .slice none 0 0, .slice none 0 0, .pointer none], .bool false]) w := by kernel_rfl
theorem ta_word (x : Value) (w : World) : (Instr.typeAssert (.iface 37 x) 20 157 true).run Tryz.prog w = .ok (.tuple #[.slice none 0 0, .bool false]) w := by kernel_rfl
theorem ta_make (x : Value) (w : World) : (Instr.typeAssert (.iface 37 x) 20 163 true).run Tryz.prog w = .ok (.tuple #[.agg #[.slice none 0 0, .slice none 0 0, .slice none 0 0], .bool false]) w := by kernel_rfl
theorem ta_step (x : Value) (w : World) : (Instr.typeAssert (.iface 37 x) 20 166 true).run Tryz.prog w = .ok (.tuple #[.slice none 0 0, .bool false]) w := by kernel_rfl
theorem ta_line (x : Value) (w : World) : (Instr.typeAssert (.iface 37 x) 20 37 true).run Tryz.prog w = .ok (.tuple #[x, .bool true]) w := by kernel_rfl

set_option maxRecDepth 100000 in
set_option maxHeartbeats 1600000 in
theorem same_any (l : EL) (v u : Value) (w : World) (hv : ES w v l.before) (hu : ES w u l.before) (hn : l.before.length ≤ 9223372036854775807) :
    Calls Tryz.prog 43 #[.iface 37 (elV2 l v), .iface 37 (elV2 l u)] w fun e w' => e = .returned (.bool true) ∧ Below w.heap.size w w' := by
  have hE := Lib.hid (fun W (hb : Below w.heap.size w W) => eqLine_any l v u W (hv.keep hb) (hu.keep hb) hn)
  obtain ⟨A1, k1, rfl, _, _⟩ := hv
  obtain ⟨A2, k2, rfl, _, _⟩ := hu
  obtain ⟨text, a, killed, killing, before, place, begun⟩ := l
  dsimp only at *
  have t1 := ta_expr
  have t2 := ta_node
  have t3 := ta_word
  have t4 := ta_make
  have t5 := ta_step
  have t6 := ta_line
  go_enter Tryz.func43, Tryz.ntmps43
  go_wp2_with fail
  refine (hE.out _ (((Below.refl _ w).alloc (Nat.le_refl _) _).alloc (by simp) _)).mono ?_
  rintro e w1 ⟨rfl, hb1⟩
  clear t1 t2 t3 t4 t5 t6
  go_wp2
  go_ret
  exact ⟨rfl, (((Below.refl _ w).alloc (Nat.le_refl _) _).alloc (by simp) _).trans (hb1.mono (by simp; omega))⟩

set_option maxHeartbeats 1600000 in
theorem sameT_any (l : EL) (v u : Value) (w : World) (hv : ES w v l.before) (hu : ES w u l.before) (hn : l.before.length ≤ 9223372036854775807) :
    Calls Tryz.prog 17 #[.iface 37 (elV2 l v), .iface 37 (elV2 l u)] w fun e w' => e = .returned (.bool true) ∧ Below w.heap.size w w' := by
  have hE := Lib.hid (same_any l v u w hv hu hn)
  clear hv hu
  go_enter Tryz.func17, Tryz.ntmps17
  go_wp2_with fail
  refine hE.out.mono ?_
  rintro e w1 ⟨rfl, hb1⟩
  go_wp2
  go_ret
  exact ⟨rfl, hb1⟩

end Go.Proofs.YtokmiommhfbkeaaGreatDoor
