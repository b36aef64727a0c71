/- UtextAll: the plays of every kind. -/
import Derived.Test.YtfgekdefnbohbaaDoorUAll13
import Derived.Test.YtfgekdefnbohbaaDoorUAll14
import Derived.Test.YtfgekdefnbohbaaDoorUAll15
import Derived.Test.YtfgekdefnbohbaaDoorRQuotes
import Derived.Test.YtfgekdefnbohbaaDoorUAll23
namespace Go.Proofs.YtfgekdefnbohbaaDoor.U
open Go.RowKit Go.Proofs.YtfgekdefnbohbaaDoor.Txt
set_option linter.unusedVariables false
set_option linter.unusedSimpArgs false
attribute [local go_sem] frozen?_alloc_cells

theorem plays_check1 (o : OpV) (ho : o.Small) (hk : o.kind = 1) : PlaysWell o := by
  obtain ⟨k, S, T, a, b⟩ := o
  obtain rfl : k = 1 := hk
  exact plays_check S T a b ho.s

theorem all_walk (w : World) (A : Option Addr) (c : Nat) (os : List OpV) (hS : Script w A os) (hn : os.length ≤ 1048576) (hsm : ∀ o ∈ os, o.Small) (hE : EnvU w) :
    Calls Tryd.prog 11 #[.slice A os.length c] w fun e w' => e = .returned (.bool true) ∧ Below w.heap.size w w' := by
  have HK := Lib.hid (kinds_any A c os 1 11 w hS hn hE fun o ho h1 h2 => by
    have hs := hsm o ho
    have : o.kind = 1 ∨ o.kind = 2 ∨ o.kind = 3 ∨ o.kind = 4 ∨ o.kind = 5 ∨ o.kind = 6 ∨ o.kind = 7 ∨ o.kind = 8 ∨ o.kind = 9 ∨ o.kind = 10 ∨ o.kind = 11 := by omega
    rcases this with h | h | h | h | h | h | h | h | h | h | h
    · exact plays_check1 o hs h
    · exact plays_place o hs h
    · exact plays_index o hs h
    · exact plays_slice o hs h
    · exact plays_splice o hs h
    · exact plays_diff o hs h
    · exact plays_quote o hs h
    · exact plays_unquote o hs h
    · exact plays_where o hs h
    · exact plays_find o hs h
    · exact plays_step o hs h)
  clear hS hsm hE
  go_enter Tryd.func11, Tryd.ntmps11
  go_wp2_with fail
  refine HK.out.mono ?_
  rintro e w1 ⟨rfl, hb⟩
  have HB := Lib.hid hb
  clear hb
  go_wp2_with fail
  go_ret
  exact ⟨rfl, HB.out⟩
end Go.Proofs.YtfgekdefnbohbaaDoor.U
