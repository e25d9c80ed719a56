/- Walk of entry.Merge up to its end, whatever the log becomes -/
import Derived.Test.YtmhaahcbmdhinaaGreatDoorZM12
import Derived.Test.YtmhaahcbmdhinaaGreatDoorZM13
import Derived.Test.YtmhaahcbmdhinaaGreatDoorZM9
namespace Go.Proofs.YtmhaahcbmdhinaaGreatDoor
open Go.RowKit
set_option maxRecDepth 100000
set_option linter.unusedVariables false
set_option linter.unusedSimpArgs false
attribute [local go_sem ↓] Go.wp_at_zero Go.wp_at_succ
end Go.Proofs.YtmhaahcbmdhinaaGreatDoor
