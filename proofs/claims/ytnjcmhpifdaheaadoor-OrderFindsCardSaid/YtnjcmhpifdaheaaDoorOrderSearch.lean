/- The whole search: order's (*search).on tells the first completion, or none. -/
import Derived.Test.YtnjcmhpifdaheaaDoorOrderOn
namespace Go.Proofs.YtnjcmhpifdaheaaDoor
open Go.RowKit
set_option linter.unusedVariables false
namespace Ord

theorem on_any (cs : List OCall) (h1 : 1 ≤ cs.length) (hn : cs.length ≤ 10) (sb db ab cb off cap : Nat) : ∀ (k : Nat) (s : OSt) (ord : List Nat) (nb m : Nat) (Dn : MapD) (lv : Value) (n : Nat) (D : MapD) (w : World), OnIn cs k sb db ab cb off cap s ord nb m Dn lv n D w →
    Calls Tryd.prog 13 #[.pointer (some ⟨sb, 0, none⟩), .map (some nb), stV s, lv] w (OnEnd cs k s ord db n w) := by
  intro k
  induction k with
  | zero =>
    intro s ord nb m Dn lv n D w hI
    exact on_full cs h1 hn sb db ab cb off cap s ord w nb n lv D hI.st (by have := hI.len; omega) hI.env hI.dead hI.deadOk hI.list
  | succ k ih =>
    intro s ord nb m Dn lv n D w hI
    by_cases hd : D.atKey (skey s) (.lit (.int .i64 0)) = .lit (.int .i64 1)
    · exact on_dead cs h1 hn k sb db ab cb off cap s ord nb m Dn lv n D w hI hd
    · exact on_live cs h1 hn k sb db ab cb off cap ih s ord nb m Dn lv n D w hI hd
end Ord
end Go.Proofs.YtnjcmhpifdaheaaDoor
