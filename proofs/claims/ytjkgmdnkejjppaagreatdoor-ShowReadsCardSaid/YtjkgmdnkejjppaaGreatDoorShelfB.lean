/- strings.indexFunc is laid with the rest of the shelf. -/
import Derived.Test.YtjkgmdnkejjppaaGreatDoorShelf
import Derived.Shelf.Strings.FuncGrows
namespace Go.Proofs
end Go.Proofs
