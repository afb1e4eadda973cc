/- strings.TrimLeft and strings.TrimRight at one byte (for a seat whose Lay was written before that module of the shelf was compiled). -/
import Derived.Test.YtpcojfcbomkgpaaDoorLay
import Derived.Shelf.Strings.Trim
namespace Go.Proofs.YtpcojfcbomkgpaaDoor
open Go.RowKit

theorem Tryd.strings_TrimLeft_one (s : ByteArray) (c : UInt8) (hc : c.toNat < 128) (w : World) : Calls Tryd.prog 118 #[.string s, .string ⟨#[c]⟩] w fun e w' => e = .returned (.string ⟨(Lib.trimLeftB s.data.toList c).toArray⟩) ∧ w' = w := Any.strings_TrimLeft_one Tryd.laysTL s c hc w
theorem Tryd.strings_TrimRight_one (s : ByteArray) (c : UInt8) (hc : c.toNat < 128) (w : World) (hs : s.size ≤ 9223372036854775807) : Calls Tryd.prog 120 #[.string s, .string ⟨#[c]⟩] w fun e w' => e = .returned (.string ⟨(Lib.trimRightB s.data.toList c).toArray⟩) ∧ w' = w := Any.strings_TrimRight_one Tryd.laysTR s c hc w hs

end Go.Proofs.YtpcojfcbomkgpaaDoor
