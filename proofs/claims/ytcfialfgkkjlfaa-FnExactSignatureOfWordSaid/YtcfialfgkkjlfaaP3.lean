/- Plain law: closed facts, by computation. -/
import Derived.Test.YtcfialfgkkjlfaaP2
namespace Go.Sg
open Go.Sx
set_option maxRecDepth 100000 in
theorem wOk_all : (levs.all fun p => wOk p.1 p.2) = true := by decide +kernel
set_option maxRecDepth 100000 in
theorem eOk_all : (levs.all fun p => (lets12 p.1).all fun x => eOk p.1 p.2 x) = true := by decide +kernel
set_option maxRecDepth 100000 in
theorem cOk_all : (levs.all fun p => (List.range p.1).all fun l => cOk p.1 p.2 l 1 && cOk p.1 p.2 l (-1)) = true := by decide +kernel
end Go.Sg
