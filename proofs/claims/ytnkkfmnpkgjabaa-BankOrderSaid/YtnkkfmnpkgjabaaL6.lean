/- Steps of a region that draws its order; picks that hang on a guard are left to the text. -/
import Derived.Test.YtnkkfmnpkgjabaaL5
namespace Go.Proofs.Ytnkkfmnpkgjabaa.X
open Go.RowKit
set_option linter.unusedVariables false
set_option linter.unusedSimpArgs false

/-- One step on, where the order is drawn. -/
theorem goG {G H : Prop} (s : H → G := by
    first
    | ((with_reducible show _ → ADl _ _ _ _ _ _ (_ :: _) _ _ _); first | exact fun h => ADl.skip (h := h))
    | ((with_reducible show _ → ADl _ _ _ _ _ _ (⟨_, .move _, _, _, _, some _⟩ :: _) _ _ _); first | exact fun h => ADl.fgF (h := h) | exact fun h => ADl.fg (h := h) | exact fun h => ADl.mloadg (h := h) | exact fun h => ADl.bg (h := h))
    | ((with_reducible show _ → ADl _ _ _ _ _ _ (⟨_, .assign _, _, _, _, some _⟩ :: _) _ _ _); first | exact fun h => ADl.fgF (h := h) | exact fun h => ADl.fg (h := h) | exact fun h => ADl.mloadg (h := h) | exact fun h => ADl.bg (h := h))
    | ((with_reducible show _ → ADl _ _ _ _ _ _ (⟨_, .load _ _, _, _, _, some _⟩ :: _) _ _ _); first | exact fun h => ADl.fgF (h := h) | exact fun h => ADl.fg (h := h) | exact fun h => ADl.mloadg (h := h) | exact fun h => ADl.bg (h := h))
    | ((with_reducible show _ → ADl _ _ _ _ _ _ (⟨_, .fieldAddr _ _ _, _, _, _, some _⟩ :: _) _ _ _); first | exact fun h => ADl.fgF (h := h) | exact fun h => ADl.fg (h := h) | exact fun h => ADl.mloadg (h := h) | exact fun h => ADl.bg (h := h))
    | ((with_reducible show _ → ADl _ _ _ _ _ _ (⟨_, .extract _ _, _, _, _, some _⟩ :: _) _ _ _); first | exact fun h => ADl.fgF (h := h) | exact fun h => ADl.fg (h := h) | exact fun h => ADl.mloadg (h := h) | exact fun h => ADl.bg (h := h))
    | ((with_reducible show _ → ADl _ _ _ _ _ _ (⟨_, .binOp .eql _ _ _ _, _, _, _, some _⟩ :: _) _ _ _); first | exact fun h => ADl.fgF (h := h) | exact fun h => ADl.fg (h := h) | exact fun h => ADl.mloadg (h := h) | exact fun h => ADl.bg (h := h))
    | ((with_reducible show _ → ADl _ _ _ _ _ _ (⟨_, .binOp .neq _ _ _ _, _, _, _, some _⟩ :: _) _ _ _); first | exact fun h => ADl.fgF (h := h) | exact fun h => ADl.fg (h := h) | exact fun h => ADl.mloadg (h := h) | exact fun h => ADl.bg (h := h))
    | ((with_reducible show _ → ADl _ _ _ _ _ _ (⟨_, .binOp .lss _ _ _ _, _, _, _, some _⟩ :: _) _ _ _); first | exact fun h => ADl.fgF (h := h) | exact fun h => ADl.fg (h := h) | exact fun h => ADl.mloadg (h := h) | exact fun h => ADl.bg (h := h))
    | ((with_reducible show _ → ADl _ _ _ _ _ _ (⟨_, .binOp .leq _ _ _ _, _, _, _, some _⟩ :: _) _ _ _); first | exact fun h => ADl.fgF (h := h) | exact fun h => ADl.fg (h := h) | exact fun h => ADl.mloadg (h := h) | exact fun h => ADl.bg (h := h))
    | ((with_reducible show _ → ADl _ _ _ _ _ _ (⟨_, .binOp .gtr _ _ _ _, _, _, _, some _⟩ :: _) _ _ _); first | exact fun h => ADl.fgF (h := h) | exact fun h => ADl.fg (h := h) | exact fun h => ADl.mloadg (h := h) | exact fun h => ADl.bg (h := h))
    | ((with_reducible show _ → ADl _ _ _ _ _ _ (⟨_, .binOp .geq _ _ _ _, _, _, _, some _⟩ :: _) _ _ _); first | exact fun h => ADl.fgF (h := h) | exact fun h => ADl.fg (h := h) | exact fun h => ADl.mloadg (h := h) | exact fun h => ADl.bg (h := h))
    | ((with_reducible show _ → ADl _ _ _ _ _ _ (⟨_, .binOp .and _ _ _ _, _, _, _, some _⟩ :: _) _ _ _); first | exact fun h => ADl.fgF (h := h) | exact fun h => ADl.fg (h := h) | exact fun h => ADl.mloadg (h := h) | exact fun h => ADl.bg (h := h))
    | ((with_reducible show _ → ADl _ _ _ _ _ _ (⟨_, .binOp .or _ _ _ _, _, _, _, some _⟩ :: _) _ _ _); first | exact fun h => ADl.fgF (h := h) | exact fun h => ADl.fg (h := h) | exact fun h => ADl.mloadg (h := h) | exact fun h => ADl.bg (h := h))
    | ((with_reducible show _ → ADl _ _ _ _ _ _ (⟨_, .binOp .xor _ _ _ _, _, _, _, some _⟩ :: _) _ _ _); first | exact fun h => ADl.fgF (h := h) | exact fun h => ADl.fg (h := h) | exact fun h => ADl.mloadg (h := h) | exact fun h => ADl.bg (h := h))
    | ((with_reducible show _ → ADl _ _ _ _ _ _ (⟨_, .binOp .andNot _ _ _ _, _, _, _, some _⟩ :: _) _ _ _); first | exact fun h => ADl.fgF (h := h) | exact fun h => ADl.fg (h := h) | exact fun h => ADl.mloadg (h := h) | exact fun h => ADl.bg (h := h))
    | ((with_reducible show _ → ADl _ _ _ _ _ _ (⟨_, .indexAddr _ _ _, _, _, _, some _⟩ :: _) _ _ _); first | exact fun h => ADl.fgF (h := h) | exact fun h => ADl.fg (h := h) | exact fun h => ADl.mloadg (h := h) | exact fun h => ADl.bg (h := h))
    | ((with_reducible show _ → ADl _ _ _ _ _ _ (⟨_, .call _, _, _, _, some _⟩ :: _) _ _ _); first | exact fun h => ADl.fgF (h := h) | exact fun h => ADl.fg (h := h) | exact fun h => ADl.mloadg (h := h) | exact fun h => ADl.bg (h := h))
    | ((with_reducible show _ → ADl _ _ _ _ _ _ (⟨_, .unOp _ _ _, _, _, _, some _⟩ :: _) _ _ _); first | exact fun h => ADl.fgF (h := h) | exact fun h => ADl.fg (h := h) | exact fun h => ADl.mloadg (h := h) | exact fun h => ADl.bg (h := h))
    | ((with_reducible show _ → ADl _ _ _ _ _ _ (⟨_, .nilCheck _, _, _, _, some _⟩ :: _) _ _ _); first | exact fun h => ADl.fgF (h := h) | exact fun h => ADl.fg (h := h) | exact fun h => ADl.mloadg (h := h) | exact fun h => ADl.bg (h := h))
    | ((with_reducible show _ → ADl _ _ _ _ _ _ (⟨_, .index _ _ _, _, _, _, some _⟩ :: _) _ _ _); first | exact fun h => ADl.fgF (h := h) | exact fun h => ADl.fg (h := h) | exact fun h => ADl.mloadg (h := h) | exact fun h => ADl.bg (h := h))
    | ((with_reducible show _ → ADl _ _ _ _ _ _ (⟨_, .convert _ _ _, _, _, _, some _⟩ :: _) _ _ _); first | exact fun h => ADl.fgF (h := h) | exact fun h => ADl.fg (h := h) | exact fun h => ADl.mloadg (h := h) | exact fun h => ADl.bg (h := h))
    | ((with_reducible show _ → ADl _ _ _ _ _ _ (⟨_, .field _ _ _, _, _, _, some _⟩ :: _) _ _ _); first | exact fun h => ADl.fgF (h := h) | exact fun h => ADl.fg (h := h) | exact fun h => ADl.mloadg (h := h) | exact fun h => ADl.bg (h := h))
    | ((with_reducible show _ → ADl _ _ _ _ _ _ (⟨_, .slice _ _ _ _ _, _, _, _, some _⟩ :: _) _ _ _); first | exact fun h => ADl.fgF (h := h) | exact fun h => ADl.fg (h := h) | exact fun h => ADl.mloadg (h := h) | exact fun h => ADl.bg (h := h))
    | ((with_reducible show _ → ADl _ _ _ _ _ _ (⟨_, .store _ _ _, _, _, _, _⟩ :: _) _ _ _); first | exact fun h => ADl.store (h := h) | exact fun h => ADl.store_all (h := h) | exact fun h => ADl.store_s (h := h) | exact fun h => ADl.store_all_s (h := h) | exact fun h => ADl.ahead (h := h) | exact fun h => ADl.ahead2 (h := h))
    | ((with_reducible show _ → ADl _ _ _ _ _ _ (⟨_, .alloc _, _, _, _, _⟩ :: _) _ _ _); first | exact fun h => ADl.alloc (h := h) | exact fun h => ADl.ahead (h := h) | exact fun h => ADl.ahead2 (h := h))
    | ((with_reducible show _ → ADl _ _ _ _ _ _ (⟨_, .buildSlice _ _ _, _, _, _, _⟩ :: _) _ _ _); first | exact fun h => ADl.lits (h := h))
    | ((with_reducible show _ → ADl _ _ _ _ _ _ (⟨_, .load _ _, _, _, _, _⟩ :: _) _ _ _); first | exact fun h => ADl.f (h := h) | exact fun h => ADl.mload (h := h) | exact fun h => ADl.b (h := h))
    | ((with_reducible show _ → ADl _ _ _ _ _ _ (_ :: _) _ _ _); first | exact fun h => ADl.f (h := h) | exact fun h => ADl.b (h := h))
    | ((with_reducible show _ → ADl _ _ _ _ _ _ [_] _ _ _); first | exact fun h => ADl.last (h := h))
    | ((with_reducible show _ → ADl _ _ _ _ _ _ [] _ _ _); first | exact fun h => ADl.done h)
    | ((with_reducible show _ → AW _ _ (.region _ _ true) _ _ _); first | exact fun h => ADl.in_ (h := h))) (h : H) : G := s h
theorem gk {G H : Prop} (s : H → G := by
    first
    | ((with_reducible show _ → AL _ _ _ _ (⟨_, .move _, _, _, _, some _⟩ :: _) _ _); first | exact fun h => AL.gTf (h := h) | exact fun h => AL.gFt (h := h) | exact fun h => AL.gTt (h := h) | exact fun h => AL.gFf (h := h) | exact fun h => AL.gd (h := h))
    | ((with_reducible show _ → AL _ _ _ _ (⟨_, .assign _, _, _, _, some _⟩ :: _) _ _); first | exact fun h => AL.gTf (h := h) | exact fun h => AL.gFt (h := h) | exact fun h => AL.gTt (h := h) | exact fun h => AL.gFf (h := h) | exact fun h => AL.gd (h := h))
    | ((with_reducible show _ → AL _ _ _ _ (⟨_, .load _ _, _, _, _, some _⟩ :: _) _ _); first | exact fun h => AL.gTf (h := h) | exact fun h => AL.gFt (h := h) | exact fun h => AL.gTt (h := h) | exact fun h => AL.gFf (h := h) | exact fun h => AL.gd (h := h))
    | ((with_reducible show _ → AL _ _ _ _ (⟨_, .fieldAddr _ _ _, _, _, _, some _⟩ :: _) _ _); first | exact fun h => AL.gTf (h := h) | exact fun h => AL.gFt (h := h) | exact fun h => AL.gTt (h := h) | exact fun h => AL.gFf (h := h) | exact fun h => AL.gd (h := h))
    | ((with_reducible show _ → AL _ _ _ _ (⟨_, .extract _ _, _, _, _, some _⟩ :: _) _ _); first | exact fun h => AL.gTf (h := h) | exact fun h => AL.gFt (h := h) | exact fun h => AL.gTt (h := h) | exact fun h => AL.gFf (h := h) | exact fun h => AL.gd (h := h))
    | ((with_reducible show _ → AL _ _ _ _ (⟨_, .binOp .eql _ _ _ _, _, _, _, some _⟩ :: _) _ _); first | exact fun h => AL.gTf (h := h) | exact fun h => AL.gFt (h := h) | exact fun h => AL.gTt (h := h) | exact fun h => AL.gFf (h := h) | exact fun h => AL.gd (h := h))
    | ((with_reducible show _ → AL _ _ _ _ (⟨_, .binOp .neq _ _ _ _, _, _, _, some _⟩ :: _) _ _); first | exact fun h => AL.gTf (h := h) | exact fun h => AL.gFt (h := h) | exact fun h => AL.gTt (h := h) | exact fun h => AL.gFf (h := h) | exact fun h => AL.gd (h := h))
    | ((with_reducible show _ → AL _ _ _ _ (⟨_, .binOp .lss _ _ _ _, _, _, _, some _⟩ :: _) _ _); first | exact fun h => AL.gTf (h := h) | exact fun h => AL.gFt (h := h) | exact fun h => AL.gTt (h := h) | exact fun h => AL.gFf (h := h) | exact fun h => AL.gd (h := h))
    | ((with_reducible show _ → AL _ _ _ _ (⟨_, .binOp .leq _ _ _ _, _, _, _, some _⟩ :: _) _ _); first | exact fun h => AL.gTf (h := h) | exact fun h => AL.gFt (h := h) | exact fun h => AL.gTt (h := h) | exact fun h => AL.gFf (h := h) | exact fun h => AL.gd (h := h))
    | ((with_reducible show _ → AL _ _ _ _ (⟨_, .binOp .gtr _ _ _ _, _, _, _, some _⟩ :: _) _ _); first | exact fun h => AL.gTf (h := h) | exact fun h => AL.gFt (h := h) | exact fun h => AL.gTt (h := h) | exact fun h => AL.gFf (h := h) | exact fun h => AL.gd (h := h))
    | ((with_reducible show _ → AL _ _ _ _ (⟨_, .binOp .geq _ _ _ _, _, _, _, some _⟩ :: _) _ _); first | exact fun h => AL.gTf (h := h) | exact fun h => AL.gFt (h := h) | exact fun h => AL.gTt (h := h) | exact fun h => AL.gFf (h := h) | exact fun h => AL.gd (h := h))
    | ((with_reducible show _ → AL _ _ _ _ (⟨_, .binOp .and _ _ _ _, _, _, _, some _⟩ :: _) _ _); first | exact fun h => AL.gTf (h := h) | exact fun h => AL.gFt (h := h) | exact fun h => AL.gTt (h := h) | exact fun h => AL.gFf (h := h) | exact fun h => AL.gd (h := h))
    | ((with_reducible show _ → AL _ _ _ _ (⟨_, .binOp .or _ _ _ _, _, _, _, some _⟩ :: _) _ _); first | exact fun h => AL.gTf (h := h) | exact fun h => AL.gFt (h := h) | exact fun h => AL.gTt (h := h) | exact fun h => AL.gFf (h := h) | exact fun h => AL.gd (h := h))
    | ((with_reducible show _ → AL _ _ _ _ (⟨_, .binOp .xor _ _ _ _, _, _, _, some _⟩ :: _) _ _); first | exact fun h => AL.gTf (h := h) | exact fun h => AL.gFt (h := h) | exact fun h => AL.gTt (h := h) | exact fun h => AL.gFf (h := h) | exact fun h => AL.gd (h := h))
    | ((with_reducible show _ → AL _ _ _ _ (⟨_, .binOp .andNot _ _ _ _, _, _, _, some _⟩ :: _) _ _); first | exact fun h => AL.gTf (h := h) | exact fun h => AL.gFt (h := h) | exact fun h => AL.gTt (h := h) | exact fun h => AL.gFf (h := h) | exact fun h => AL.gd (h := h))
    | ((with_reducible show _ → AL _ _ _ _ (⟨_, .indexAddr _ _ _, _, _, _, some _⟩ :: _) _ _); first | exact fun h => AL.gTf (h := h) | exact fun h => AL.gFt (h := h) | exact fun h => AL.gTt (h := h) | exact fun h => AL.gFf (h := h) | exact fun h => AL.gd (h := h))
    | ((with_reducible show _ → AL _ _ _ _ (⟨_, .call _, _, _, _, some _⟩ :: _) _ _); first | exact fun h => AL.gTf (h := h) | exact fun h => AL.gFt (h := h) | exact fun h => AL.gTt (h := h) | exact fun h => AL.gFf (h := h) | exact fun h => AL.gd (h := h))
    | ((with_reducible show _ → AL _ _ _ _ (⟨_, .unOp _ _ _, _, _, _, some _⟩ :: _) _ _); first | exact fun h => AL.gTf (h := h) | exact fun h => AL.gFt (h := h) | exact fun h => AL.gTt (h := h) | exact fun h => AL.gFf (h := h) | exact fun h => AL.gd (h := h))
    | ((with_reducible show _ → AL _ _ _ _ (⟨_, .nilCheck _, _, _, _, some _⟩ :: _) _ _); first | exact fun h => AL.gTf (h := h) | exact fun h => AL.gFt (h := h) | exact fun h => AL.gTt (h := h) | exact fun h => AL.gFf (h := h) | exact fun h => AL.gd (h := h))
    | ((with_reducible show _ → AL _ _ _ _ (⟨_, .index _ _ _, _, _, _, some _⟩ :: _) _ _); first | exact fun h => AL.gTf (h := h) | exact fun h => AL.gFt (h := h) | exact fun h => AL.gTt (h := h) | exact fun h => AL.gFf (h := h) | exact fun h => AL.gd (h := h))
    | ((with_reducible show _ → AL _ _ _ _ (⟨_, .convert _ _ _, _, _, _, some _⟩ :: _) _ _); first | exact fun h => AL.gTf (h := h) | exact fun h => AL.gFt (h := h) | exact fun h => AL.gTt (h := h) | exact fun h => AL.gFf (h := h) | exact fun h => AL.gd (h := h))
    | ((with_reducible show _ → AL _ _ _ _ (⟨_, .field _ _ _, _, _, _, some _⟩ :: _) _ _); first | exact fun h => AL.gTf (h := h) | exact fun h => AL.gFt (h := h) | exact fun h => AL.gTt (h := h) | exact fun h => AL.gFf (h := h) | exact fun h => AL.gd (h := h))
    | ((with_reducible show _ → AL _ _ _ _ (⟨_, .slice _ _ _ _ _, _, _, _, some _⟩ :: _) _ _); first | exact fun h => AL.gTf (h := h) | exact fun h => AL.gFt (h := h) | exact fun h => AL.gTt (h := h) | exact fun h => AL.gFf (h := h) | exact fun h => AL.gd (h := h))
    | ((with_reducible show _ → AL _ _ _ _ (⟨_, .store _ _ _, _, _, _, _⟩ :: _) _ _); first | exact fun h => AL.store (h := h) | exact fun h => AL.store_all (h := h) | exact fun h => AL.store_row (h := h))
    | ((with_reducible show _ → AL _ _ _ _ (⟨_, .alloc _, _, _, _, _⟩ :: _) _ _); first | exact fun h => AL.alloc (h := h))
    | ((with_reducible show _ → AL _ _ _ _ (⟨_, .box _ _, _, _, _, _⟩ :: _) _ _); first | exact fun h => AL.box (h := h))
    | ((with_reducible show _ → AL _ _ _ _ (_ :: _) _ _); first | exact fun h => AL.s (h := h) | exact fun h => AL.s0 (h := h))
    | ((with_reducible show _ → AL _ _ _ _ [] _ _); first | exact fun h => AL.nil h)) (h : H) : G := s h
end Go.Proofs.Ytnkkfmnpkgjabaa.X
