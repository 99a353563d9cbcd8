import Derived.Test.YtdchhhedpipeiaaEvU
import Derived.Test.YtdchhhedpipeiaaEvZL
import Derived.Test.YtdchhhedpipeiaaEvKeys0
import Derived.Test.YtdchhhedpipeiaaProg
open Go Go.Ev Go.Proofs
namespace BE
abbrev ty2 : Ty := .int .i64
abbrev ty4 : Ty := .bool
abbrev ty5 : Ty := .int .u8
abbrev ty7 : Ty := .pair ty2 (.pair ty2 (.pair ty4 ty5))
abbrev T7 : Type := Int × Int × Bool × Int
abbrev ty9 : Ty := .str
abbrev ty12 : Ty := .int .u64
abbrev ty13 : Ty := .pair ty9 ty12
abbrev T13 : Type := ByteArray × Int
abbrev ty21 : Ty := .int .i32
abbrev ty33 : Ty := .int .u32
abbrev ty35 : Ty := .sl ty33
abbrev ty71 : Ty := .pair ty2 ty35
abbrev T71 : Type := Int × List Int
abbrev ty34 : Ty := .sl ty71
abbrev ty36 : Ty := .pair ty2 (.pair ty34 (.pair ty33 (.pair ty4 (.pair ty33 (.pair ty4 (.pair ty33 (.pair ty4 ty35)))))))
abbrev T36 : Type := Int × List T71 × Int × Bool × Int × Bool × Int × Bool × List Int
abbrev ty40 : Ty := .f64
abbrev ty53 : Ty := .pair ty33 (.pair ty33 (.pair ty4 (.pair ty36 (.pair ty40 ty2))))
abbrev T53 : Type := Int × Int × Bool × T36 × Nat × Int
abbrev ty22 : Ty := .sl ty53
abbrev ty38 : Ty := .pair ty2 (.pair ty33 (.pair ty33 (.pair ty4 ty36)))
abbrev T38 : Type := Int × Int × Int × Bool × T36
abbrev ty41 : Ty := .pair ty38 ty40
abbrev T41 : Type := T38 × Nat
abbrev ty23 : Ty := .sl ty41
abbrev ty24 : Ty := .sl ty2
abbrev ty44 : Ty := .pair ty2 ty2
abbrev T44 : Type := Int × Int
abbrev ty46 : Ty := .sl ty44
abbrev ty65 : Ty := .sl ty40
abbrev ty80 : Ty := .sl ty4
end BE
