/- The draw of a message keeps its contract. No condition. -/
import Derived.Test.YtjopkcjpedgoaaaGreatDoorMG34
/- The draw of a message keeps its contract. No condition. -/
namespace Go.Proofs.YtjopkcjpedgoaaaGreatDoor
theorem msgD : MsgD 10330 := l11Msg_of 10310 (by decide) (l11Ask_of 9000 (by decide) l11Query_calls)
end Go.Proofs.YtjopkcjpedgoaaaGreatDoor
