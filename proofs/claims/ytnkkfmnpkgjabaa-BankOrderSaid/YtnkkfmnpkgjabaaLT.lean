/- The data types of lifted code. Printed by a program of this repo (lift.py). -/
import Derived.Test.YtnkkfmnpkgjabaaL3
namespace Go.Proofs.Ytnkkfmnpkgjabaa.X
open Go.RowKit
set_option linter.unusedVariables false
abbrev Txt := ByteArray
def idxT (s : Txt) (i : Int) : Option UInt8 := if 0 ≤ i then s[i.toNat]? else none
theorem idxT_some {s : Txt} {i : Int} {x : UInt8} (h : idxT s i = some x) : 0 ≤ i ∧ s[i.toNat]? = some x := by
  unfold idxT at h
  by_cases hi : 0 ≤ i
  · rw [if_pos hi] at h; exact ⟨hi, h⟩
  · rw [if_neg hi] at h; cases h
theorem idxT_b {β : Type} {s : Txt} {i : Int} {f : UInt8 → Option β} {r : β} (h : (idxT s i).bind f = some r) : ∃ x, 0 ≤ i ∧ s[i.toNat]? = some x ∧ f x = some r := by
  obtain ⟨x, h1, h2⟩ := bnd h
  exact ⟨x, (idxT_some h1).1, (idxT_some h1).2, h2⟩
theorem gba {c b : Bool} (hc : c = true) (hb : b = true) : (c && b) = true := by rw [hc, hb]; rfl
theorem gbo {c b : Bool} (hc : c = true) (hb : b = false) : (c && !b) = true := by rw [hc, hb]; rfl
abbrev sA (s : Txt) : A := .v (.string s)
abbrev iA (n : Int) : A := .v (.int .i64 n)
abbrev bA (b : Bool) : A := .v (.bool b)
def strR (s : Txt) : List A := [.v (.string s)]
def intR (n : Int) : List A := [.v (.int .i64 n)]
def boolR (b : Bool) : List A := [.v (.bool b)]
def kR (k : IntKind) (n : Int) : List A := [.v (.int k n)]
def slR {α : Type} (R : α → List A) (l : List α) : List A := [.sl (l.map R)]
theorem ens1 {p : Prop} [Decidable p] {u : Unit} (h : ensure p = some u) : p := by
  unfold ensure at h
  by_cases hp : p
  · exact hp
  · rw [if_neg hp] at h; cases h
structure SEntry where
  Term : Int
  Cmd : Txt
  deriving Inhabited
def rEntry (x : SEntry) : List A := [iA x.Term, sA x.Cmd]
theorem rEntry_len (x : SEntry) : (rEntry x).length = 2 := rfl
structure SParty where
  Account : Txt
  Keys : List Txt
  deriving Inhabited
def rParty (x : SParty) : List A := [sA x.Account, .sl (x.Keys.map strR)]
theorem rParty_len (x : SParty) : (rParty x).length = 2 := rfl
structure SArc where
  From : Int
  To : Int
  Ledger : Int
  Asset : Txt
  Amount : Int
  deriving Inhabited
def rArc (x : SArc) : List A := [iA x.From, iA x.To, iA x.Ledger, sA x.Asset, iA x.Amount]
theorem rArc_len (x : SArc) : (rArc x).length = 5 := rfl
structure SSpec where
  ID : Txt
  Parties : List SParty
  Arcs : List SArc
  Leaders : List Int
  Locks : List Txt
  Start : Int
  Delta : Int
  deriving Inhabited
def rSpec (x : SSpec) : List A := [sA x.ID, .sl (x.Parties.map rParty), .sl (x.Arcs.map rArc), .sl (x.Leaders.map intR), .sl (x.Locks.map strR), iA x.Start, iA x.Delta]
theorem rSpec_len (x : SSpec) : (rSpec x).length = 7 := rfl
structure SFund where
  Account : Txt
  Asset : Txt
  Amount : Int
  deriving Inhabited
def rFund (x : SFund) : List A := [sA x.Account, sA x.Asset, iA x.Amount]
theorem rFund_len (x : SFund) : (rFund x).length = 3 := rfl
structure SHashkey where
  Lock : Int
  Secret : Txt
  Path : List Int
  Sigs : List Txt
  deriving Inhabited
def rHashkey (x : SHashkey) : List A := [iA x.Lock, sA x.Secret, .sl (x.Path.map intR), .sl (x.Sigs.map strR)]
theorem rHashkey_len (x : SHashkey) : (rHashkey x).length = 4 := rfl
structure SEscrow where
  Spec : SSpec
  Arc : Int
  State : Int
  Keys : List SHashkey
  deriving Inhabited
def rEscrow (x : SEscrow) : List A := [sA x.Spec.ID, .sl (x.Spec.Parties.map rParty), .sl (x.Spec.Arcs.map rArc), .sl (x.Spec.Leaders.map intR), .sl (x.Spec.Locks.map strR), iA x.Spec.Start, iA x.Spec.Delta, iA x.Arc, iA x.State, .sl (x.Keys.map rHashkey)]
theorem rEscrow_len (x : SEscrow) : (rEscrow x).length = 10 := rfl
structure SBook where
  Number : Int
  Time : Int
  Accounts : List Txt
  Funds : List SFund
  Escrows : List SEscrow
  deriving Inhabited
def rBook (x : SBook) : List A := [iA x.Number, iA x.Time, .sl (x.Accounts.map strR), .sl (x.Funds.map rFund), .sl (x.Escrows.map rEscrow)]
theorem rBook_len (x : SBook) : (rBook x).length = 5 := rfl
structure SMsg where
  Kind : Int
  From : Int
  To : Int
  Term : Int
  Index : Int
  At : Int
  Yes : Bool
  Commit : Int
  Entries : List SEntry
  Snap : Txt
  deriving Inhabited
def rMsg (x : SMsg) : List A := [iA x.Kind, iA x.From, iA x.To, iA x.Term, iA x.Index, iA x.At, bA x.Yes, iA x.Commit, .sl (x.Entries.map rEntry), sA x.Snap]
theorem rMsg_len (x : SMsg) : (rMsg x).length = 10 := rfl
end Go.Proofs.Ytnkkfmnpkgjabaa.X
