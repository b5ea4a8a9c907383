/- The facts of this seat (types and functions of its translation), by program, as instances of the classes of the rules. No condition. -/
import Derived.Test.YtlhpgoddoglhaaaProg
import Derived.Test.YtlhpgoddoglhaaaTjQ
import Derived.KernelRfl
namespace Go.Proofs.Ytlhpgoddoglhaaa
open Go Go.TJ Go.Proofs
instance : Inf Try.prog 0 1 0 (.tuple #[]) := ⟨by kernel_rfl⟩
instance : Inf Try.prog 1 1 8 (.nilFunc) := ⟨by kernel_rfl⟩
instance : Und Try.prog 1 (.func #[] #[] false) := ⟨Try.underlying1⟩
instance : Scal Try.prog 1 := Scal.mk' Try.underlying1 rfl inferInstance
instance : Inf Try.prog 2 1 8 (.int .i64 0) := ⟨by kernel_rfl⟩
instance : Und Try.prog 2 (.int .i64) := ⟨Try.underlying2⟩
instance : Scal Try.prog 2 := Scal.mk' Try.underlying2 rfl inferInstance
instance : Inf Try.prog 3 1 8 (.int .i64 0) := ⟨by kernel_rfl⟩
instance : Und Try.prog 3 (.int .i64) := ⟨Try.underlying3⟩
instance : Scal Try.prog 3 := Scal.mk' Try.underlying3 rfl inferInstance
instance : Inf Try.prog 4 1 1 (.bool false) := ⟨by kernel_rfl⟩
instance : Und Try.prog 4 (.bool) := ⟨Try.underlying4⟩
instance : Scal Try.prog 4 := Scal.mk' Try.underlying4 rfl inferInstance
instance : Inf Try.prog 5 1 1 (.int .u8 0) := ⟨by kernel_rfl⟩
instance : Und Try.prog 5 (.int .u8) := ⟨Try.underlying5⟩
instance : Scal Try.prog 5 := Scal.mk' Try.underlying5 rfl inferInstance
instance : Inf Try.prog 6 1 1 (.int .u8 0) := ⟨by kernel_rfl⟩
instance : Und Try.prog 6 (.int .u8) := ⟨Try.underlying6⟩
instance : Scal Try.prog 6 := Scal.mk' Try.underlying6 rfl inferInstance
instance : Inf Try.prog 7 4 24 (.agg #[.int .i64 0, .int .i64 0, .bool false, .int .u8 0]) := ⟨by kernel_rfl⟩
instance : Aggr Try.prog 7 4 := Aggr.mk' Try.underlying7 rfl inferInstance
instance : Places Try.prog 7 [(0, 1), (1, 1), (2, 1), (3, 1)] := ⟨_, Try.underlying7, ⟨rfl, infSize (t := 2), rfl, infSize (t := 3), rfl, infSize (t := 4), rfl, infSize (t := 6), trivial⟩⟩
instance : FieldOff Try.prog 7 0 0 := FieldOff.mk' (ft := 2) Try.underlying7 rfl rfl rfl inferInstance (by decide)
instance : FieldOff Try.prog 7 1 1 := FieldOff.mk' (ft := 3) Try.underlying7 rfl rfl rfl inferInstance (by decide)
instance : FieldOff Try.prog 7 2 2 := FieldOff.mk' (ft := 4) Try.underlying7 rfl rfl rfl inferInstance (by decide)
instance : FieldOff Try.prog 7 3 3 := FieldOff.mk' (ft := 6) Try.underlying7 rfl rfl rfl inferInstance (by decide)
instance : Inf Try.prog 8 4 24 (.agg #[.int .i64 0, .int .i64 0, .bool false, .int .u8 0]) := ⟨by kernel_rfl⟩
instance : Aggr Try.prog 8 4 := Aggr.mk' Try.underlying8 rfl inferInstance
instance : Places Try.prog 8 [(0, 1), (1, 1), (2, 1), (3, 1)] := ⟨_, Try.underlying8, ⟨rfl, infSize (t := 2), rfl, infSize (t := 3), rfl, infSize (t := 4), rfl, infSize (t := 6), trivial⟩⟩
instance : FieldOff Try.prog 8 0 0 := FieldOff.mk' (ft := 2) Try.underlying8 rfl rfl rfl inferInstance (by decide)
instance : FieldOff Try.prog 8 1 1 := FieldOff.mk' (ft := 3) Try.underlying8 rfl rfl rfl inferInstance (by decide)
instance : FieldOff Try.prog 8 2 2 := FieldOff.mk' (ft := 4) Try.underlying8 rfl rfl rfl inferInstance (by decide)
instance : FieldOff Try.prog 8 3 3 := FieldOff.mk' (ft := 6) Try.underlying8 rfl rfl rfl inferInstance (by decide)
instance : Inf Try.prog 9 1 16 (.string .empty) := ⟨by kernel_rfl⟩
instance : Und Try.prog 9 (.string) := ⟨Try.underlying9⟩
instance : Scal Try.prog 9 := Scal.mk' Try.underlying9 rfl inferInstance
instance : Inf Try.prog 10 1 16 (.string .empty) := ⟨by kernel_rfl⟩
instance : Und Try.prog 10 (.string) := ⟨Try.underlying10⟩
instance : Scal Try.prog 10 := Scal.mk' Try.underlying10 rfl inferInstance
instance : Inf Try.prog 11 1 16 (.string .empty) := ⟨by kernel_rfl⟩
instance : Und Try.prog 11 (.string) := ⟨Try.underlying11⟩
instance : Scal Try.prog 11 := Scal.mk' Try.underlying11 rfl inferInstance
instance : Inf Try.prog 12 1 8 (.int .u64 0) := ⟨by kernel_rfl⟩
instance : Und Try.prog 12 (.int .u64) := ⟨Try.underlying12⟩
instance : Scal Try.prog 12 := Scal.mk' Try.underlying12 rfl inferInstance
instance : Inf Try.prog 13 2 24 (.agg #[.string .empty, .int .u64 0]) := ⟨by kernel_rfl⟩
instance : Aggr Try.prog 13 2 := Aggr.mk' Try.underlying13 rfl inferInstance
instance : Places Try.prog 13 [(0, 1), (1, 1)] := ⟨_, Try.underlying13, ⟨rfl, infSize (t := 9), rfl, infSize (t := 12), trivial⟩⟩
instance : FieldOff Try.prog 13 0 0 := FieldOff.mk' (ft := 9) Try.underlying13 rfl rfl rfl inferInstance (by decide)
instance : FieldOff Try.prog 13 1 1 := FieldOff.mk' (ft := 12) Try.underlying13 rfl rfl rfl inferInstance (by decide)
instance : Inf Try.prog 14 2 24 (.agg #[.string .empty, .int .u64 0]) := ⟨by kernel_rfl⟩
instance : Aggr Try.prog 14 2 := Aggr.mk' Try.underlying14 rfl inferInstance
instance : Places Try.prog 14 [(0, 1), (1, 1)] := ⟨_, Try.underlying14, ⟨rfl, infSize (t := 9), rfl, infSize (t := 12), trivial⟩⟩
instance : FieldOff Try.prog 14 0 0 := FieldOff.mk' (ft := 9) Try.underlying14 rfl rfl rfl inferInstance (by decide)
instance : FieldOff Try.prog 14 1 1 := FieldOff.mk' (ft := 12) Try.underlying14 rfl rfl rfl inferInstance (by decide)
instance : Inf Try.prog 15 1 8 (.pointer none) := ⟨by kernel_rfl⟩
instance : Und Try.prog 15 (.pointer 139) := ⟨Try.underlying15⟩
instance : Scal Try.prog 15 := Scal.mk' Try.underlying15 rfl inferInstance
instance : Inf Try.prog 16 1 8 (.pointer none) := ⟨by kernel_rfl⟩
instance : Und Try.prog 16 (.pointer 142) := ⟨Try.underlying16⟩
instance : Scal Try.prog 16 := Scal.mk' Try.underlying16 rfl inferInstance
instance : Inf Try.prog 17 1 8 (.pointer none) := ⟨by kernel_rfl⟩
instance : Und Try.prog 17 (.pointer 151) := ⟨Try.underlying17⟩
instance : Scal Try.prog 17 := Scal.mk' Try.underlying17 rfl inferInstance
instance : Inf Try.prog 18 1 8 (.agg #[.pointer none]) := ⟨by kernel_rfl⟩
instance : Aggr Try.prog 18 1 := Aggr.mk' Try.underlying18 rfl inferInstance
instance : Places Try.prog 18 [(0, 1)] := ⟨_, Try.underlying18, ⟨rfl, infSize (t := 17), trivial⟩⟩
instance : FieldOff Try.prog 18 0 0 := FieldOff.mk' (ft := 17) Try.underlying18 rfl rfl rfl inferInstance (by decide)
instance : Inf Try.prog 19 1 8 (.agg #[.pointer none]) := ⟨by kernel_rfl⟩
instance : Aggr Try.prog 19 1 := Aggr.mk' Try.underlying19 rfl inferInstance
instance : Places Try.prog 19 [(0, 1)] := ⟨_, Try.underlying19, ⟨rfl, infSize (t := 17), trivial⟩⟩
instance : FieldOff Try.prog 19 0 0 := FieldOff.mk' (ft := 17) Try.underlying19 rfl rfl rfl inferInstance (by decide)
instance : Inf Try.prog 20 1 16 (.nilIface) := ⟨by kernel_rfl⟩
instance : Scal Try.prog 20 := Scal.mk' Try.underlying20 rfl inferInstance
instance : Inf Try.prog 21 1 4 (.int .i32 0) := ⟨by kernel_rfl⟩
instance : Und Try.prog 21 (.int .i32) := ⟨Try.underlying21⟩
instance : Scal Try.prog 21 := Scal.mk' Try.underlying21 rfl inferInstance
instance : Inf Try.prog 22 1 8 (.pointer none) := ⟨by kernel_rfl⟩
instance : Und Try.prog 22 (.pointer 29) := ⟨Try.underlying22⟩
instance : Scal Try.prog 22 := Scal.mk' Try.underlying22 rfl inferInstance
instance : Inf Try.prog 23 1 8 (.pointer none) := ⟨by kernel_rfl⟩
instance : Und Try.prog 23 (.pointer 100) := ⟨Try.underlying23⟩
instance : Scal Try.prog 23 := Scal.mk' Try.underlying23 rfl inferInstance
instance : Inf Try.prog 24 1 8 (.nilFunc) := ⟨by kernel_rfl⟩
instance : Und Try.prog 24 (.func #[30] #[] false) := ⟨Try.underlying24⟩
instance : Scal Try.prog 24 := Scal.mk' Try.underlying24 rfl inferInstance
instance : Inf Try.prog 25 3 24 (.agg #[.pointer none, .pointer none, .nilFunc]) := ⟨by kernel_rfl⟩
instance : Aggr Try.prog 25 3 := Aggr.mk' Try.underlying25 rfl inferInstance
instance : Places Try.prog 25 [(0, 1), (1, 1), (2, 1)] := ⟨_, Try.underlying25, ⟨rfl, infSize (t := 23), rfl, infSize (t := 23), rfl, infSize (t := 24), trivial⟩⟩
instance : FieldOff Try.prog 25 0 0 := FieldOff.mk' (ft := 23) Try.underlying25 rfl rfl rfl inferInstance (by decide)
instance : FieldOff Try.prog 25 1 1 := FieldOff.mk' (ft := 23) Try.underlying25 rfl rfl rfl inferInstance (by decide)
instance : FieldOff Try.prog 25 2 2 := FieldOff.mk' (ft := 24) Try.underlying25 rfl rfl rfl inferInstance (by decide)
instance : Inf Try.prog 26 3 24 (.agg #[.pointer none, .pointer none, .nilFunc]) := ⟨by kernel_rfl⟩
instance : Aggr Try.prog 26 3 := Aggr.mk' Try.underlying26 rfl inferInstance
instance : Places Try.prog 26 [(0, 1), (1, 1), (2, 1)] := ⟨_, Try.underlying26, ⟨rfl, infSize (t := 23), rfl, infSize (t := 23), rfl, infSize (t := 24), trivial⟩⟩
instance : FieldOff Try.prog 26 0 0 := FieldOff.mk' (ft := 23) Try.underlying26 rfl rfl rfl inferInstance (by decide)
instance : FieldOff Try.prog 26 1 1 := FieldOff.mk' (ft := 23) Try.underlying26 rfl rfl rfl inferInstance (by decide)
instance : FieldOff Try.prog 26 2 2 := FieldOff.mk' (ft := 24) Try.underlying26 rfl rfl rfl inferInstance (by decide)
instance : Inf Try.prog 27 48 384 (.agg #[.pointer none, .pointer none, .nilFunc, .pointer none, .pointer none, .nilFunc, .pointer none, .pointer none, .nilFunc, .pointer none, .pointer none, .nilFunc, .pointer none, .pointer none, .nilFunc, .pointer none, .pointer none, .nilFunc, .pointer none, .pointer none, .nilFunc, .pointer none, .pointer none, .nilFunc, .pointer none, .pointer none, .nilFunc, .pointer none, .pointer none, .nilFunc, .pointer none, .pointer none, .nilFunc, .pointer none, .pointer none, .nilFunc, .pointer none, .pointer none, .nilFunc, .pointer none, .pointer none, .nilFunc, .pointer none, .pointer none, .nilFunc, .pointer none, .pointer none, .nilFunc]) := ⟨by kernel_rfl⟩
instance : Und Try.prog 27 (.array 16 26) := ⟨Try.underlying27⟩
instance : Aggr Try.prog 27 48 := Aggr.mk' Try.underlying27 rfl inferInstance
instance : Inf Try.prog 28 50 400 (.agg #[.pointer none, .pointer none, .pointer none, .pointer none, .nilFunc, .pointer none, .pointer none, .nilFunc, .pointer none, .pointer none, .nilFunc, .pointer none, .pointer none, .nilFunc, .pointer none, .pointer none, .nilFunc, .pointer none, .pointer none, .nilFunc, .pointer none, .pointer none, .nilFunc, .pointer none, .pointer none, .nilFunc, .pointer none, .pointer none, .nilFunc, .pointer none, .pointer none, .nilFunc, .pointer none, .pointer none, .nilFunc, .pointer none, .pointer none, .nilFunc, .pointer none, .pointer none, .nilFunc, .pointer none, .pointer none, .nilFunc, .pointer none, .pointer none, .nilFunc, .pointer none, .pointer none, .nilFunc]) := ⟨by kernel_rfl⟩
instance : Aggr Try.prog 28 50 := Aggr.mk' Try.underlying28 rfl inferInstance
instance : Places Try.prog 28 [(0, 1), (1, 1), (2, 48)] := ⟨_, Try.underlying28, ⟨rfl, infSize (t := 23), rfl, infSize (t := 23), rfl, infSize (t := 27), trivial⟩⟩
instance : FieldOff Try.prog 28 0 0 := FieldOff.mk' (ft := 23) Try.underlying28 rfl rfl rfl inferInstance (by decide)
instance : FieldOff Try.prog 28 1 1 := FieldOff.mk' (ft := 23) Try.underlying28 rfl rfl rfl inferInstance (by decide)
instance : FieldOff Try.prog 28 2 2 := FieldOff.mk' (ft := 27) Try.underlying28 rfl rfl rfl inferInstance (by decide)
instance : Inf Try.prog 29 50 400 (.agg #[.pointer none, .pointer none, .pointer none, .pointer none, .nilFunc, .pointer none, .pointer none, .nilFunc, .pointer none, .pointer none, .nilFunc, .pointer none, .pointer none, .nilFunc, .pointer none, .pointer none, .nilFunc, .pointer none, .pointer none, .nilFunc, .pointer none, .pointer none, .nilFunc, .pointer none, .pointer none, .nilFunc, .pointer none, .pointer none, .nilFunc, .pointer none, .pointer none, .nilFunc, .pointer none, .pointer none, .nilFunc, .pointer none, .pointer none, .nilFunc, .pointer none, .pointer none, .nilFunc, .pointer none, .pointer none, .nilFunc, .pointer none, .pointer none, .nilFunc, .pointer none, .pointer none, .nilFunc]) := ⟨by kernel_rfl⟩
instance : Aggr Try.prog 29 50 := Aggr.mk' Try.underlying29 rfl inferInstance
instance : Places Try.prog 29 [(0, 1), (1, 1), (2, 48)] := ⟨_, Try.underlying29, ⟨rfl, infSize (t := 23), rfl, infSize (t := 23), rfl, infSize (t := 27), trivial⟩⟩
instance : FieldOff Try.prog 29 0 0 := FieldOff.mk' (ft := 23) Try.underlying29 rfl rfl rfl inferInstance (by decide)
instance : FieldOff Try.prog 29 1 1 := FieldOff.mk' (ft := 23) Try.underlying29 rfl rfl rfl inferInstance (by decide)
instance : FieldOff Try.prog 29 2 2 := FieldOff.mk' (ft := 27) Try.underlying29 rfl rfl rfl inferInstance (by decide)
instance : Inf Try.prog 30 1 8 (.pointer none) := ⟨by kernel_rfl⟩
instance : Und Try.prog 30 (.pointer 111) := ⟨Try.underlying30⟩
instance : Scal Try.prog 30 := Scal.mk' Try.underlying30 rfl inferInstance
instance : Inf Try.prog 31 2 16 (.agg #[.int .i64 0, .int .i64 0]) := ⟨by kernel_rfl⟩
instance : Aggr Try.prog 31 2 := Aggr.mk' Try.underlying31 rfl inferInstance
instance : Places Try.prog 31 [(0, 1), (1, 1)] := ⟨_, Try.underlying31, ⟨rfl, infSize (t := 3), rfl, infSize (t := 2), trivial⟩⟩
instance : EqI2 Try.prog 31 .i64 .i64 := ⟨by kernel_rfl, by kernel_rfl, _, _, Try.underlying31, by decide, by decide, rfl, rfl, Try.underlying3, Try.underlying2⟩
instance : FieldOff Try.prog 31 0 0 := FieldOff.mk' (ft := 3) Try.underlying31 rfl rfl rfl inferInstance (by decide)
instance : FieldOff Try.prog 31 1 1 := FieldOff.mk' (ft := 2) Try.underlying31 rfl rfl rfl inferInstance (by decide)
instance : Inf Try.prog 32 2 16 (.agg #[.int .i64 0, .int .i64 0]) := ⟨by kernel_rfl⟩
instance : Aggr Try.prog 32 2 := Aggr.mk' Try.underlying32 rfl inferInstance
instance : Places Try.prog 32 [(0, 1), (1, 1)] := ⟨_, Try.underlying32, ⟨rfl, infSize (t := 3), rfl, infSize (t := 2), trivial⟩⟩
instance : EqI2 Try.prog 32 .i64 .i64 := ⟨by kernel_rfl, by kernel_rfl, _, _, Try.underlying32, by decide, by decide, rfl, rfl, Try.underlying3, Try.underlying2⟩
instance : FieldOff Try.prog 32 0 0 := FieldOff.mk' (ft := 3) Try.underlying32 rfl rfl rfl inferInstance (by decide)
instance : FieldOff Try.prog 32 1 1 := FieldOff.mk' (ft := 2) Try.underlying32 rfl rfl rfl inferInstance (by decide)
instance : Inf Try.prog 33 1 8 (.int .i64 0) := ⟨by kernel_rfl⟩
instance : Und Try.prog 33 (.int .i64) := ⟨Try.underlying33⟩
instance : Scal Try.prog 33 := Scal.mk' Try.underlying33 rfl inferInstance
instance : Inf Try.prog 34 1 0 (.tuple #[.agg #[.int .i64 0, .int .i64 0], .int .i64 0]) := ⟨by kernel_rfl⟩
instance : Inf Try.prog 35 1 8 (.nilFunc) := ⟨by kernel_rfl⟩
instance : Und Try.prog 35 (.func #[30, 2, 24] #[32, 33] false) := ⟨Try.underlying35⟩
instance : Scal Try.prog 35 := Scal.mk' Try.underlying35 rfl inferInstance
instance : Inf Try.prog 36 1 0 (.tuple #[.int .i64 0, .int .i64 0]) := ⟨by kernel_rfl⟩
instance : Inf Try.prog 37 1 8 (.nilFunc) := ⟨by kernel_rfl⟩
instance : Und Try.prog 37 (.func #[30, 2] #[3, 33] false) := ⟨Try.underlying37⟩
instance : Scal Try.prog 37 := Scal.mk' Try.underlying37 rfl inferInstance
instance : Inf Try.prog 38 1 8 (.nilFunc) := ⟨by kernel_rfl⟩
instance : Und Try.prog 38 (.func #[30, 32] #[4] false) := ⟨Try.underlying38⟩
instance : Scal Try.prog 38 := Scal.mk' Try.underlying38 rfl inferInstance
instance : Inf Try.prog 39 1 8 (.nilFunc) := ⟨by kernel_rfl⟩
instance : Und Try.prog 39 (.func #[30] #[2] false) := ⟨Try.underlying39⟩
instance : Scal Try.prog 39 := Scal.mk' Try.underlying39 rfl inferInstance
instance : Inf Try.prog 40 1 8 (.nilFunc) := ⟨by kernel_rfl⟩
instance : Und Try.prog 40 (.func #[] #[22] false) := ⟨Try.underlying40⟩
instance : Scal Try.prog 40 := Scal.mk' Try.underlying40 rfl inferInstance
instance : Inf Try.prog 41 1 8 (.nilFunc) := ⟨by kernel_rfl⟩
instance : Und Try.prog 41 (.func #[] #[4] false) := ⟨Try.underlying41⟩
instance : Scal Try.prog 41 := Scal.mk' Try.underlying41 rfl inferInstance
instance : Inf Try.prog 42 1 8 (.nilFunc) := ⟨by kernel_rfl⟩
instance : Und Try.prog 42 (.func #[3, 2, 2] #[4] false) := ⟨Try.underlying42⟩
instance : Scal Try.prog 42 := Scal.mk' Try.underlying42 rfl inferInstance
instance : Inf Try.prog 43 1 24 (.slice none 0 0) := ⟨by kernel_rfl⟩
instance : Und Try.prog 43 (.slice 49) := ⟨Try.underlying43⟩
instance : Scal Try.prog 43 := Scal.mk' Try.underlying43 rfl inferInstance
instance : Inf Try.prog 44 1 24 (.slice none 0 0) := ⟨by kernel_rfl⟩
instance : Und Try.prog 44 (.slice 2) := ⟨Try.underlying44⟩
instance : Scal Try.prog 44 := Scal.mk' Try.underlying44 rfl inferInstance
instance : Inf Try.prog 45 1 24 (.slice none 0 0) := ⟨by kernel_rfl⟩
instance : Und Try.prog 45 (.slice 3) := ⟨Try.underlying45⟩
instance : Scal Try.prog 45 := Scal.mk' Try.underlying45 rfl inferInstance
instance : Inf Try.prog 46 1 24 (.slice none 0 0) := ⟨by kernel_rfl⟩
instance : Und Try.prog 46 (.slice 32) := ⟨Try.underlying46⟩
instance : Scal Try.prog 46 := Scal.mk' Try.underlying46 rfl inferInstance
instance : Inf Try.prog 47 1 24 (.slice none 0 0) := ⟨by kernel_rfl⟩
instance : Und Try.prog 47 (.slice 4) := ⟨Try.underlying47⟩
instance : Scal Try.prog 47 := Scal.mk' Try.underlying47 rfl inferInstance
instance : Inf Try.prog 48 2 16 (.agg #[.int .i64 0, .int .i64 0]) := ⟨by kernel_rfl⟩
instance : Aggr Try.prog 48 2 := Aggr.mk' Try.underlying48 rfl inferInstance
instance : Places Try.prog 48 [(0, 1), (1, 1)] := ⟨_, Try.underlying48, ⟨rfl, infSize (t := 2), rfl, infSize (t := 3), trivial⟩⟩
instance : EqI2 Try.prog 48 .i64 .i64 := ⟨by kernel_rfl, by kernel_rfl, _, _, Try.underlying48, by decide, by decide, rfl, rfl, Try.underlying2, Try.underlying3⟩
instance : FieldOff Try.prog 48 0 0 := FieldOff.mk' (ft := 2) Try.underlying48 rfl rfl rfl inferInstance (by decide)
instance : FieldOff Try.prog 48 1 1 := FieldOff.mk' (ft := 3) Try.underlying48 rfl rfl rfl inferInstance (by decide)
instance : Inf Try.prog 49 2 16 (.agg #[.int .i64 0, .int .i64 0]) := ⟨by kernel_rfl⟩
instance : Aggr Try.prog 49 2 := Aggr.mk' Try.underlying49 rfl inferInstance
instance : Places Try.prog 49 [(0, 1), (1, 1)] := ⟨_, Try.underlying49, ⟨rfl, infSize (t := 2), rfl, infSize (t := 3), trivial⟩⟩
instance : EqI2 Try.prog 49 .i64 .i64 := ⟨by kernel_rfl, by kernel_rfl, _, _, Try.underlying49, by decide, by decide, rfl, rfl, Try.underlying2, Try.underlying3⟩
instance : FieldOff Try.prog 49 0 0 := FieldOff.mk' (ft := 2) Try.underlying49 rfl rfl rfl inferInstance (by decide)
instance : FieldOff Try.prog 49 1 1 := FieldOff.mk' (ft := 3) Try.underlying49 rfl rfl rfl inferInstance (by decide)
instance : Inf Try.prog 50 1 8 (.nilFunc) := ⟨by kernel_rfl⟩
instance : Und Try.prog 50 (.func #[43, 44] #[4] false) := ⟨Try.underlying50⟩
instance : Scal Try.prog 50 := Scal.mk' Try.underlying50 rfl inferInstance
instance : Inf Try.prog 51 1 8 (.nilFunc) := ⟨by kernel_rfl⟩
instance : Und Try.prog 51 (.func #[3, 3] #[3] false) := ⟨Try.underlying51⟩
instance : Scal Try.prog 51 := Scal.mk' Try.underlying51 rfl inferInstance
instance : Inf Try.prog 52 1 8 (.pointer none) := ⟨by kernel_rfl⟩
instance : Und Try.prog 52 (.pointer 67) := ⟨Try.underlying52⟩
instance : Scal Try.prog 52 := Scal.mk' Try.underlying52 rfl inferInstance
instance : Inf Try.prog 53 1 0 (.tuple #[.pointer none, .int .i64 0]) := ⟨by kernel_rfl⟩
instance : Inf Try.prog 54 1 8 (.nilFunc) := ⟨by kernel_rfl⟩
instance : Und Try.prog 54 (.func #[3, 3] #[52, 33] false) := ⟨Try.underlying54⟩
instance : Scal Try.prog 54 := Scal.mk' Try.underlying54 rfl inferInstance
instance : Inf Try.prog 55 1 8 (.nilFunc) := ⟨by kernel_rfl⟩
instance : Und Try.prog 55 (.func #[30, 3, 2] #[33] false) := ⟨Try.underlying55⟩
instance : Scal Try.prog 55 := Scal.mk' Try.underlying55 rfl inferInstance
instance : Inf Try.prog 56 1 0 (.tuple #[.int .i64 0, .int .i64 0, .bool false]) := ⟨by kernel_rfl⟩
instance : Inf Try.prog 57 1 8 (.nilFunc) := ⟨by kernel_rfl⟩
instance : Und Try.prog 57 (.func #[30] #[2, 3, 4] false) := ⟨Try.underlying57⟩
instance : Scal Try.prog 57 := Scal.mk' Try.underlying57 rfl inferInstance
instance : Inf Try.prog 58 1 8 (.nilFunc) := ⟨by kernel_rfl⟩
instance : Und Try.prog 58 (.func #[3] #[4] false) := ⟨Try.underlying58⟩
instance : Scal Try.prog 58 := Scal.mk' Try.underlying58 rfl inferInstance
instance : Inf Try.prog 59 1 8 (.pointer none) := ⟨by kernel_rfl⟩
instance : Und Try.prog 59 (.pointer 26) := ⟨Try.underlying59⟩
instance : Scal Try.prog 59 := Scal.mk' Try.underlying59 rfl inferInstance
instance : Inf Try.prog 60 1 8 (.nilFunc) := ⟨by kernel_rfl⟩
instance : Und Try.prog 60 (.func #[30, 2, 2] #[4] false) := ⟨Try.underlying60⟩
instance : Scal Try.prog 60 := Scal.mk' Try.underlying60 rfl inferInstance
instance : Inf Try.prog 61 1 8 (.nilFunc) := ⟨by kernel_rfl⟩
instance : Und Try.prog 61 (.func #[30, 2] #[] false) := ⟨Try.underlying61⟩
instance : Scal Try.prog 61 := Scal.mk' Try.underlying61 rfl inferInstance
instance : Inf Try.prog 62 1 0 (.tuple #[.agg #[.int .i64 0, .int .i64 0], .bool false]) := ⟨by kernel_rfl⟩
instance : Inf Try.prog 63 1 8 (.nilFunc) := ⟨by kernel_rfl⟩
instance : Und Try.prog 63 (.func #[30, 2] #[32, 4] false) := ⟨Try.underlying63⟩
instance : Scal Try.prog 63 := Scal.mk' Try.underlying63 rfl inferInstance
instance : Inf Try.prog 64 1 8 (.nilFunc) := ⟨by kernel_rfl⟩
instance : Und Try.prog 64 (.func #[2] #[23] false) := ⟨Try.underlying64⟩
instance : Scal Try.prog 64 := Scal.mk' Try.underlying64 rfl inferInstance
instance : Inf Try.prog 65 1 24 (.slice none 0 0) := ⟨by kernel_rfl⟩
instance : Und Try.prog 65 (.slice 68) := ⟨Try.underlying65⟩
instance : Scal Try.prog 65 := Scal.mk' Try.underlying65 rfl inferInstance
instance : Inf Try.prog 66 2 32 (.agg #[.pointer none, .slice none 0 0]) := ⟨by kernel_rfl⟩
instance : Aggr Try.prog 66 2 := Aggr.mk' Try.underlying66 rfl inferInstance
instance : Places Try.prog 66 [(0, 1), (1, 1)] := ⟨_, Try.underlying66, ⟨rfl, infSize (t := 23), rfl, infSize (t := 65), trivial⟩⟩
instance : FieldOff Try.prog 66 0 0 := FieldOff.mk' (ft := 23) Try.underlying66 rfl rfl rfl inferInstance (by decide)
instance : FieldOff Try.prog 66 1 1 := FieldOff.mk' (ft := 65) Try.underlying66 rfl rfl rfl inferInstance (by decide)
instance : Inf Try.prog 67 2 32 (.agg #[.pointer none, .slice none 0 0]) := ⟨by kernel_rfl⟩
instance : Aggr Try.prog 67 2 := Aggr.mk' Try.underlying67 rfl inferInstance
instance : Places Try.prog 67 [(0, 1), (1, 1)] := ⟨_, Try.underlying67, ⟨rfl, infSize (t := 23), rfl, infSize (t := 65), trivial⟩⟩
instance : FieldOff Try.prog 67 0 0 := FieldOff.mk' (ft := 23) Try.underlying67 rfl rfl rfl inferInstance (by decide)
instance : FieldOff Try.prog 67 1 1 := FieldOff.mk' (ft := 65) Try.underlying67 rfl rfl rfl inferInstance (by decide)
instance : Inf Try.prog 68 1 8 (.pointer none) := ⟨by kernel_rfl⟩
instance : Und Try.prog 68 (.pointer 71) := ⟨Try.underlying68⟩
instance : Scal Try.prog 68 := Scal.mk' Try.underlying68 rfl inferInstance
instance : Inf Try.prog 69 1 24 (.slice none 0 0) := ⟨by kernel_rfl⟩
instance : Und Try.prog 69 (.slice 73) := ⟨Try.underlying69⟩
instance : Scal Try.prog 69 := Scal.mk' Try.underlying69 rfl inferInstance
instance : Inf Try.prog 70 3 40 (.agg #[.pointer none, .pointer none, .slice none 0 0]) := ⟨by kernel_rfl⟩
instance : Aggr Try.prog 70 3 := Aggr.mk' Try.underlying70 rfl inferInstance
instance : Places Try.prog 70 [(0, 1), (1, 1), (2, 1)] := ⟨_, Try.underlying70, ⟨rfl, infSize (t := 23), rfl, infSize (t := 23), rfl, infSize (t := 69), trivial⟩⟩
instance : FieldOff Try.prog 70 0 0 := FieldOff.mk' (ft := 23) Try.underlying70 rfl rfl rfl inferInstance (by decide)
instance : FieldOff Try.prog 70 1 1 := FieldOff.mk' (ft := 23) Try.underlying70 rfl rfl rfl inferInstance (by decide)
instance : FieldOff Try.prog 70 2 2 := FieldOff.mk' (ft := 69) Try.underlying70 rfl rfl rfl inferInstance (by decide)
instance : Inf Try.prog 71 3 40 (.agg #[.pointer none, .pointer none, .slice none 0 0]) := ⟨by kernel_rfl⟩
instance : Aggr Try.prog 71 3 := Aggr.mk' Try.underlying71 rfl inferInstance
instance : Places Try.prog 71 [(0, 1), (1, 1), (2, 1)] := ⟨_, Try.underlying71, ⟨rfl, infSize (t := 23), rfl, infSize (t := 23), rfl, infSize (t := 69), trivial⟩⟩
instance : FieldOff Try.prog 71 0 0 := FieldOff.mk' (ft := 23) Try.underlying71 rfl rfl rfl inferInstance (by decide)
instance : FieldOff Try.prog 71 1 1 := FieldOff.mk' (ft := 23) Try.underlying71 rfl rfl rfl inferInstance (by decide)
instance : FieldOff Try.prog 71 2 2 := FieldOff.mk' (ft := 69) Try.underlying71 rfl rfl rfl inferInstance (by decide)
instance : Inf Try.prog 72 3 24 (.agg #[.pointer none, .pointer none, .pointer none]) := ⟨by kernel_rfl⟩
instance : Aggr Try.prog 72 3 := Aggr.mk' Try.underlying72 rfl inferInstance
instance : Places Try.prog 72 [(0, 1), (1, 1), (2, 1)] := ⟨_, Try.underlying72, ⟨rfl, infSize (t := 23), rfl, infSize (t := 23), rfl, infSize (t := 23), trivial⟩⟩
instance : FieldOff Try.prog 72 0 0 := FieldOff.mk' (ft := 23) Try.underlying72 rfl rfl rfl inferInstance (by decide)
instance : FieldOff Try.prog 72 1 1 := FieldOff.mk' (ft := 23) Try.underlying72 rfl rfl rfl inferInstance (by decide)
instance : FieldOff Try.prog 72 2 2 := FieldOff.mk' (ft := 23) Try.underlying72 rfl rfl rfl inferInstance (by decide)
instance : Inf Try.prog 73 3 24 (.agg #[.pointer none, .pointer none, .pointer none]) := ⟨by kernel_rfl⟩
instance : Aggr Try.prog 73 3 := Aggr.mk' Try.underlying73 rfl inferInstance
instance : Places Try.prog 73 [(0, 1), (1, 1), (2, 1)] := ⟨_, Try.underlying73, ⟨rfl, infSize (t := 23), rfl, infSize (t := 23), rfl, infSize (t := 23), trivial⟩⟩
instance : FieldOff Try.prog 73 0 0 := FieldOff.mk' (ft := 23) Try.underlying73 rfl rfl rfl inferInstance (by decide)
instance : FieldOff Try.prog 73 1 1 := FieldOff.mk' (ft := 23) Try.underlying73 rfl rfl rfl inferInstance (by decide)
instance : FieldOff Try.prog 73 2 2 := FieldOff.mk' (ft := 23) Try.underlying73 rfl rfl rfl inferInstance (by decide)
instance : Inf Try.prog 74 1 8 (.nilFunc) := ⟨by kernel_rfl⟩
instance : Und Try.prog 74 (.func #[30] #[2, 4] false) := ⟨Try.underlying74⟩
instance : Scal Try.prog 74 := Scal.mk' Try.underlying74 rfl inferInstance
instance : Inf Try.prog 75 1 0 (.tuple #[.int .i64 0, .bool false]) := ⟨by kernel_rfl⟩
instance : Inf Try.prog 76 1 8 (.pointer none) := ⟨by kernel_rfl⟩
instance : Und Try.prog 76 (.pointer 73) := ⟨Try.underlying76⟩
instance : Scal Try.prog 76 := Scal.mk' Try.underlying76 rfl inferInstance
instance : Inf Try.prog 77 1 8 (.nilFunc) := ⟨by kernel_rfl⟩
instance : Und Try.prog 77 (.func #[2] #[76] false) := ⟨Try.underlying77⟩
instance : Scal Try.prog 77 := Scal.mk' Try.underlying77 rfl inferInstance
instance : Inf Try.prog 78 1 8 (.nilFunc) := ⟨by kernel_rfl⟩
instance : Und Try.prog 78 (.func #[30, 2] #[2] false) := ⟨Try.underlying78⟩
instance : Scal Try.prog 78 := Scal.mk' Try.underlying78 rfl inferInstance
instance : Inf Try.prog 79 3 24 (.agg #[.bool false, .int .i64 0, .int .i64 0]) := ⟨by kernel_rfl⟩
instance : Aggr Try.prog 79 3 := Aggr.mk' Try.underlying79 rfl inferInstance
instance : Places Try.prog 79 [(0, 1), (1, 1), (2, 1)] := ⟨_, Try.underlying79, ⟨rfl, infSize (t := 4), rfl, infSize (t := 2), rfl, infSize (t := 2), trivial⟩⟩
instance : FieldOff Try.prog 79 0 0 := FieldOff.mk' (ft := 4) Try.underlying79 rfl rfl rfl inferInstance (by decide)
instance : FieldOff Try.prog 79 1 1 := FieldOff.mk' (ft := 2) Try.underlying79 rfl rfl rfl inferInstance (by decide)
instance : FieldOff Try.prog 79 2 2 := FieldOff.mk' (ft := 2) Try.underlying79 rfl rfl rfl inferInstance (by decide)
instance : Inf Try.prog 80 3 24 (.agg #[.bool false, .int .i64 0, .int .i64 0]) := ⟨by kernel_rfl⟩
instance : Aggr Try.prog 80 3 := Aggr.mk' Try.underlying80 rfl inferInstance
instance : Places Try.prog 80 [(0, 1), (1, 1), (2, 1)] := ⟨_, Try.underlying80, ⟨rfl, infSize (t := 4), rfl, infSize (t := 2), rfl, infSize (t := 2), trivial⟩⟩
instance : FieldOff Try.prog 80 0 0 := FieldOff.mk' (ft := 4) Try.underlying80 rfl rfl rfl inferInstance (by decide)
instance : FieldOff Try.prog 80 1 1 := FieldOff.mk' (ft := 2) Try.underlying80 rfl rfl rfl inferInstance (by decide)
instance : FieldOff Try.prog 80 2 2 := FieldOff.mk' (ft := 2) Try.underlying80 rfl rfl rfl inferInstance (by decide)
instance : Inf Try.prog 81 24 192 (.agg #[.bool false, .int .i64 0, .int .i64 0, .bool false, .int .i64 0, .int .i64 0, .bool false, .int .i64 0, .int .i64 0, .bool false, .int .i64 0, .int .i64 0, .bool false, .int .i64 0, .int .i64 0, .bool false, .int .i64 0, .int .i64 0, .bool false, .int .i64 0, .int .i64 0, .bool false, .int .i64 0, .int .i64 0]) := ⟨by kernel_rfl⟩
instance : Und Try.prog 81 (.array 8 80) := ⟨Try.underlying81⟩
instance : Aggr Try.prog 81 24 := Aggr.mk' Try.underlying81 rfl inferInstance
instance : Inf Try.prog 82 1 0 (.tuple #[.agg #[.bool false, .int .i64 0, .int .i64 0, .bool false, .int .i64 0, .int .i64 0, .bool false, .int .i64 0, .int .i64 0, .bool false, .int .i64 0, .int .i64 0, .bool false, .int .i64 0, .int .i64 0, .bool false, .int .i64 0, .int .i64 0, .bool false, .int .i64 0, .int .i64 0, .bool false, .int .i64 0, .int .i64 0], .int .i64 0]) := ⟨by kernel_rfl⟩
instance : Inf Try.prog 83 1 8 (.nilFunc) := ⟨by kernel_rfl⟩
instance : Und Try.prog 83 (.func #[30] #[81, 3] false) := ⟨Try.underlying83⟩
instance : Scal Try.prog 83 := Scal.mk' Try.underlying83 rfl inferInstance
instance : Inf Try.prog 84 1 0 (.tuple #[.int .i64 0, .int .i64 0, .bool false]) := ⟨by kernel_rfl⟩
instance : Inf Try.prog 85 1 8 (.nilFunc) := ⟨by kernel_rfl⟩
instance : Und Try.prog 85 (.func #[86, 101, 2, 2] #[2, 2, 4] false) := ⟨Try.underlying85⟩
instance : Scal Try.prog 85 := Scal.mk' Try.underlying85 rfl inferInstance
instance : Inf Try.prog 86 1 8 (.pointer none) := ⟨by kernel_rfl⟩
instance : Und Try.prog 86 (.pointer 91) := ⟨Try.underlying86⟩
instance : Scal Try.prog 86 := Scal.mk' Try.underlying86 rfl inferInstance
instance : Inf Try.prog 87 0 0 (.agg #[]) := ⟨by kernel_rfl⟩
instance : Aggr Try.prog 87 0 := Aggr.mk' Try.underlying87 rfl inferInstance
instance : Places Try.prog 87 [] := ⟨_, Try.underlying87, trivial⟩
instance : Inf Try.prog 88 0 0 (.agg #[]) := ⟨by kernel_rfl⟩
instance : Aggr Try.prog 88 0 := Aggr.mk' Try.underlying88 rfl inferInstance
instance : Places Try.prog 88 [] := ⟨_, Try.underlying88, trivial⟩
instance : Inf Try.prog 89 0 0 (.agg #[]) := ⟨by kernel_rfl⟩
instance : Aggr Try.prog 89 0 := Aggr.mk' Try.underlying89 rfl inferInstance
instance : Places Try.prog 89 [] := ⟨_, Try.underlying89, trivial⟩
instance : Inf Try.prog 90 1 8 (.agg #[.int .i64 0]) := ⟨by kernel_rfl⟩
instance : Aggr Try.prog 90 1 := Aggr.mk' Try.underlying90 rfl inferInstance
instance : Places Try.prog 90 [(0, 0), (0, 0), (0, 1)] := ⟨_, Try.underlying90, ⟨rfl, infSize (t := 88), rfl, infSize (t := 89), rfl, infSize (t := 2), trivial⟩⟩
instance : FieldOff Try.prog 90 2 0 := FieldOff.mk' (ft := 2) Try.underlying90 rfl rfl rfl inferInstance (by decide)
instance : Inf Try.prog 91 1 8 (.agg #[.int .i64 0]) := ⟨by kernel_rfl⟩
instance : Aggr Try.prog 91 1 := Aggr.mk' Try.underlying91 rfl inferInstance
instance : Places Try.prog 91 [(0, 0), (0, 0), (0, 1)] := ⟨_, Try.underlying91, ⟨rfl, infSize (t := 88), rfl, infSize (t := 89), rfl, infSize (t := 2), trivial⟩⟩
instance : FieldOff Try.prog 91 2 0 := FieldOff.mk' (ft := 2) Try.underlying91 rfl rfl rfl inferInstance (by decide)
instance : Inf Try.prog 92 0 0 (.agg #[]) := ⟨by kernel_rfl⟩
instance : Aggr Try.prog 92 0 := Aggr.mk' Try.underlying92 rfl inferInstance
instance : Places Try.prog 92 [] := ⟨_, Try.underlying92, trivial⟩
instance : Inf Try.prog 93 1 4 (.int .u32 0) := ⟨by kernel_rfl⟩
instance : Und Try.prog 93 (.int .u32) := ⟨Try.underlying93⟩
instance : Scal Try.prog 93 := Scal.mk' Try.underlying93 rfl inferInstance
instance : Inf Try.prog 94 2 8 (.agg #[.int .i32 0, .int .u32 0]) := ⟨by kernel_rfl⟩
instance : Aggr Try.prog 94 2 := Aggr.mk' Try.underlying94 rfl inferInstance
instance : Places Try.prog 94 [(0, 1), (1, 1)] := ⟨_, Try.underlying94, ⟨rfl, infSize (t := 21), rfl, infSize (t := 93), trivial⟩⟩
instance : EqI2 Try.prog 94 .i32 .u32 := ⟨by kernel_rfl, by kernel_rfl, _, _, Try.underlying94, by decide, by decide, rfl, rfl, Try.underlying21, Try.underlying93⟩
instance : FieldOff Try.prog 94 0 0 := FieldOff.mk' (ft := 21) Try.underlying94 rfl rfl rfl inferInstance (by decide)
instance : FieldOff Try.prog 94 1 1 := FieldOff.mk' (ft := 93) Try.underlying94 rfl rfl rfl inferInstance (by decide)
instance : Inf Try.prog 95 2 8 (.agg #[.int .i32 0, .int .u32 0]) := ⟨by kernel_rfl⟩
instance : Aggr Try.prog 95 2 := Aggr.mk' Try.underlying95 rfl inferInstance
instance : Places Try.prog 95 [(0, 1), (1, 1)] := ⟨_, Try.underlying95, ⟨rfl, infSize (t := 21), rfl, infSize (t := 93), trivial⟩⟩
instance : EqI2 Try.prog 95 .i32 .u32 := ⟨by kernel_rfl, by kernel_rfl, _, _, Try.underlying95, by decide, by decide, rfl, rfl, Try.underlying21, Try.underlying93⟩
instance : FieldOff Try.prog 95 0 0 := FieldOff.mk' (ft := 21) Try.underlying95 rfl rfl rfl inferInstance (by decide)
instance : FieldOff Try.prog 95 1 1 := FieldOff.mk' (ft := 93) Try.underlying95 rfl rfl rfl inferInstance (by decide)
instance : Inf Try.prog 96 2 8 (.agg #[.int .i32 0, .int .u32 0]) := ⟨by kernel_rfl⟩
instance : Aggr Try.prog 96 2 := Aggr.mk' Try.underlying96 rfl inferInstance
instance : Places Try.prog 96 [(0, 0), (0, 2)] := ⟨_, Try.underlying96, ⟨rfl, infSize (t := 92), rfl, infSize (t := 95), trivial⟩⟩
instance : FieldOff Try.prog 96 1 0 := FieldOff.mk' (ft := 95) Try.underlying96 rfl rfl rfl inferInstance (by decide)
instance : Inf Try.prog 97 2 8 (.agg #[.int .i32 0, .int .u32 0]) := ⟨by kernel_rfl⟩
instance : Aggr Try.prog 97 2 := Aggr.mk' Try.underlying97 rfl inferInstance
instance : Places Try.prog 97 [(0, 0), (0, 2)] := ⟨_, Try.underlying97, ⟨rfl, infSize (t := 92), rfl, infSize (t := 95), trivial⟩⟩
instance : FieldOff Try.prog 97 1 0 := FieldOff.mk' (ft := 95) Try.underlying97 rfl rfl rfl inferInstance (by decide)
instance : Inf Try.prog 98 1 8 (.chan none) := ⟨by kernel_rfl⟩
instance : Und Try.prog 98 (.chan .both 87) := ⟨Try.underlying98⟩
instance : Scal Try.prog 98 := Scal.mk' Try.underlying98 rfl inferInstance
instance : Inf Try.prog 99 5 32 (.agg #[.int .i64 0, .bool false, .int .i32 0, .int .u32 0, .chan none]) := ⟨by kernel_rfl⟩
instance : Aggr Try.prog 99 5 := Aggr.mk' Try.underlying99 rfl inferInstance
instance : Places Try.prog 99 [(0, 1), (1, 1), (2, 2), (4, 1)] := ⟨_, Try.underlying99, ⟨rfl, infSize (t := 91), rfl, infSize (t := 4), rfl, infSize (t := 97), rfl, infSize (t := 98), trivial⟩⟩
instance : FieldOff Try.prog 99 0 0 := FieldOff.mk' (ft := 91) Try.underlying99 rfl rfl rfl inferInstance (by decide)
instance : FieldOff Try.prog 99 1 1 := FieldOff.mk' (ft := 4) Try.underlying99 rfl rfl rfl inferInstance (by decide)
instance : FieldOff Try.prog 99 2 2 := FieldOff.mk' (ft := 97) Try.underlying99 rfl rfl rfl inferInstance (by decide)
instance : FieldOff Try.prog 99 3 4 := FieldOff.mk' (ft := 98) Try.underlying99 rfl rfl rfl inferInstance (by decide)
instance : Inf Try.prog 100 5 32 (.agg #[.int .i64 0, .bool false, .int .i32 0, .int .u32 0, .chan none]) := ⟨by kernel_rfl⟩
instance : Aggr Try.prog 100 5 := Aggr.mk' Try.underlying100 rfl inferInstance
instance : Places Try.prog 100 [(0, 1), (1, 1), (2, 2), (4, 1)] := ⟨_, Try.underlying100, ⟨rfl, infSize (t := 91), rfl, infSize (t := 4), rfl, infSize (t := 97), rfl, infSize (t := 98), trivial⟩⟩
instance : FieldOff Try.prog 100 0 0 := FieldOff.mk' (ft := 91) Try.underlying100 rfl rfl rfl inferInstance (by decide)
instance : FieldOff Try.prog 100 1 1 := FieldOff.mk' (ft := 4) Try.underlying100 rfl rfl rfl inferInstance (by decide)
instance : FieldOff Try.prog 100 2 2 := FieldOff.mk' (ft := 97) Try.underlying100 rfl rfl rfl inferInstance (by decide)
instance : FieldOff Try.prog 100 3 4 := FieldOff.mk' (ft := 98) Try.underlying100 rfl rfl rfl inferInstance (by decide)
instance : Inf Try.prog 101 1 1 (.int .i8 0) := ⟨by kernel_rfl⟩
instance : Und Try.prog 101 (.int .i8) := ⟨Try.underlying101⟩
instance : Scal Try.prog 101 := Scal.mk' Try.underlying101 rfl inferInstance
instance : Inf Try.prog 102 1 8 (.nilFunc) := ⟨by kernel_rfl⟩
instance : Und Try.prog 102 (.func #[] #[2] false) := ⟨Try.underlying102⟩
instance : Scal Try.prog 102 := Scal.mk' Try.underlying102 rfl inferInstance
instance : Inf Try.prog 103 1 8 (.nilFunc) := ⟨by kernel_rfl⟩
instance : Und Try.prog 103 (.func #[2, 2] #[4] false) := ⟨Try.underlying103⟩
instance : Scal Try.prog 103 := Scal.mk' Try.underlying103 rfl inferInstance
instance : Inf Try.prog 104 1 8 (.nilFunc) := ⟨by kernel_rfl⟩
instance : Und Try.prog 104 (.func #[2] #[] false) := ⟨Try.underlying104⟩
instance : Scal Try.prog 104 := Scal.mk' Try.underlying104 rfl inferInstance
instance : Inf Try.prog 105 1 8 (.nilFunc) := ⟨by kernel_rfl⟩
instance : Und Try.prog 105 (.func #[2] #[2] false) := ⟨Try.underlying105⟩
instance : Scal Try.prog 105 := Scal.mk' Try.underlying105 rfl inferInstance
instance : Inf Try.prog 106 1 8 (.pointer none) := ⟨by kernel_rfl⟩
instance : Und Try.prog 106 (.pointer 81) := ⟨Try.underlying106⟩
instance : Scal Try.prog 106 := Scal.mk' Try.underlying106 rfl inferInstance
instance : Inf Try.prog 107 1 8 (.pointer none) := ⟨by kernel_rfl⟩
instance : Und Try.prog 107 (.pointer 118) := ⟨Try.underlying107⟩
instance : Scal Try.prog 107 := Scal.mk' Try.underlying107 rfl inferInstance
instance : Inf Try.prog 108 8 64 (.agg #[.int .i64 0, .int .i8 0, .int .i64 0, .int .i64 0, .int .i64 0, .int .i64 0, .int .i64 0, .bool false]) := ⟨by kernel_rfl⟩
instance : Aggr Try.prog 108 8 := Aggr.mk' Try.underlying108 rfl inferInstance
instance : Places Try.prog 108 [(0, 1), (1, 1), (2, 1), (3, 1), (4, 1), (5, 1), (6, 1), (7, 1)] := ⟨_, Try.underlying108, ⟨rfl, infSize (t := 3), rfl, infSize (t := 101), rfl, infSize (t := 3), rfl, infSize (t := 2), rfl, infSize (t := 2), rfl, infSize (t := 2), rfl, infSize (t := 2), rfl, infSize (t := 4), trivial⟩⟩
instance : FieldOff Try.prog 108 0 0 := FieldOff.mk' (ft := 3) Try.underlying108 rfl rfl rfl inferInstance (by decide)
instance : FieldOff Try.prog 108 1 1 := FieldOff.mk' (ft := 101) Try.underlying108 rfl rfl rfl inferInstance (by decide)
instance : FieldOff Try.prog 108 2 2 := FieldOff.mk' (ft := 3) Try.underlying108 rfl rfl rfl inferInstance (by decide)
instance : FieldOff Try.prog 108 3 3 := FieldOff.mk' (ft := 2) Try.underlying108 rfl rfl rfl inferInstance (by decide)
instance : FieldOff Try.prog 108 4 4 := FieldOff.mk' (ft := 2) Try.underlying108 rfl rfl rfl inferInstance (by decide)
instance : FieldOff Try.prog 108 5 5 := FieldOff.mk' (ft := 2) Try.underlying108 rfl rfl rfl inferInstance (by decide)
instance : FieldOff Try.prog 108 6 6 := FieldOff.mk' (ft := 2) Try.underlying108 rfl rfl rfl inferInstance (by decide)
instance : FieldOff Try.prog 108 7 7 := FieldOff.mk' (ft := 4) Try.underlying108 rfl rfl rfl inferInstance (by decide)
instance : Inf Try.prog 109 8 64 (.agg #[.int .i64 0, .int .i8 0, .int .i64 0, .int .i64 0, .int .i64 0, .int .i64 0, .int .i64 0, .bool false]) := ⟨by kernel_rfl⟩
instance : Aggr Try.prog 109 8 := Aggr.mk' Try.underlying109 rfl inferInstance
instance : Places Try.prog 109 [(0, 1), (1, 1), (2, 1), (3, 1), (4, 1), (5, 1), (6, 1), (7, 1)] := ⟨_, Try.underlying109, ⟨rfl, infSize (t := 3), rfl, infSize (t := 101), rfl, infSize (t := 3), rfl, infSize (t := 2), rfl, infSize (t := 2), rfl, infSize (t := 2), rfl, infSize (t := 2), rfl, infSize (t := 4), trivial⟩⟩
instance : FieldOff Try.prog 109 0 0 := FieldOff.mk' (ft := 3) Try.underlying109 rfl rfl rfl inferInstance (by decide)
instance : FieldOff Try.prog 109 1 1 := FieldOff.mk' (ft := 101) Try.underlying109 rfl rfl rfl inferInstance (by decide)
instance : FieldOff Try.prog 109 2 2 := FieldOff.mk' (ft := 3) Try.underlying109 rfl rfl rfl inferInstance (by decide)
instance : FieldOff Try.prog 109 3 3 := FieldOff.mk' (ft := 2) Try.underlying109 rfl rfl rfl inferInstance (by decide)
instance : FieldOff Try.prog 109 4 4 := FieldOff.mk' (ft := 2) Try.underlying109 rfl rfl rfl inferInstance (by decide)
instance : FieldOff Try.prog 109 5 5 := FieldOff.mk' (ft := 2) Try.underlying109 rfl rfl rfl inferInstance (by decide)
instance : FieldOff Try.prog 109 6 6 := FieldOff.mk' (ft := 2) Try.underlying109 rfl rfl rfl inferInstance (by decide)
instance : FieldOff Try.prog 109 7 7 := FieldOff.mk' (ft := 4) Try.underlying109 rfl rfl rfl inferInstance (by decide)
instance : Inf Try.prog 110 14 112 (.agg #[.pointer none, .int .i64 0, .chan none, .chan none, .pointer none, .int .i64 0, .int .i8 0, .int .i64 0, .int .i64 0, .int .i64 0, .int .i64 0, .int .i64 0, .bool false, .bool false]) := ⟨by kernel_rfl⟩
instance : Aggr Try.prog 110 14 := Aggr.mk' Try.underlying110 rfl inferInstance
instance : Places Try.prog 110 [(0, 1), (1, 1), (2, 1), (3, 1), (4, 1), (5, 8), (13, 1)] := ⟨_, Try.underlying110, ⟨rfl, infSize (t := 107), rfl, infSize (t := 3), rfl, infSize (t := 98), rfl, infSize (t := 98), rfl, infSize (t := 86), rfl, infSize (t := 109), rfl, infSize (t := 4), trivial⟩⟩
instance : FieldOff Try.prog 110 0 0 := FieldOff.mk' (ft := 107) Try.underlying110 rfl rfl rfl inferInstance (by decide)
instance : FieldOff Try.prog 110 1 1 := FieldOff.mk' (ft := 3) Try.underlying110 rfl rfl rfl inferInstance (by decide)
instance : FieldOff Try.prog 110 2 2 := FieldOff.mk' (ft := 98) Try.underlying110 rfl rfl rfl inferInstance (by decide)
instance : FieldOff Try.prog 110 3 3 := FieldOff.mk' (ft := 98) Try.underlying110 rfl rfl rfl inferInstance (by decide)
instance : FieldOff Try.prog 110 4 4 := FieldOff.mk' (ft := 86) Try.underlying110 rfl rfl rfl inferInstance (by decide)
instance : FieldOff Try.prog 110 5 5 := FieldOff.mk' (ft := 109) Try.underlying110 rfl rfl rfl inferInstance (by decide)
instance : FieldOff Try.prog 110 6 13 := FieldOff.mk' (ft := 4) Try.underlying110 rfl rfl rfl inferInstance (by decide)
instance : Inf Try.prog 111 14 112 (.agg #[.pointer none, .int .i64 0, .chan none, .chan none, .pointer none, .int .i64 0, .int .i8 0, .int .i64 0, .int .i64 0, .int .i64 0, .int .i64 0, .int .i64 0, .bool false, .bool false]) := ⟨by kernel_rfl⟩
instance : Aggr Try.prog 111 14 := Aggr.mk' Try.underlying111 rfl inferInstance
instance : Places Try.prog 111 [(0, 1), (1, 1), (2, 1), (3, 1), (4, 1), (5, 8), (13, 1)] := ⟨_, Try.underlying111, ⟨rfl, infSize (t := 107), rfl, infSize (t := 3), rfl, infSize (t := 98), rfl, infSize (t := 98), rfl, infSize (t := 86), rfl, infSize (t := 109), rfl, infSize (t := 4), trivial⟩⟩
instance : FieldOff Try.prog 111 0 0 := FieldOff.mk' (ft := 107) Try.underlying111 rfl rfl rfl inferInstance (by decide)
instance : FieldOff Try.prog 111 1 1 := FieldOff.mk' (ft := 3) Try.underlying111 rfl rfl rfl inferInstance (by decide)
instance : FieldOff Try.prog 111 2 2 := FieldOff.mk' (ft := 98) Try.underlying111 rfl rfl rfl inferInstance (by decide)
instance : FieldOff Try.prog 111 3 3 := FieldOff.mk' (ft := 98) Try.underlying111 rfl rfl rfl inferInstance (by decide)
instance : FieldOff Try.prog 111 4 4 := FieldOff.mk' (ft := 86) Try.underlying111 rfl rfl rfl inferInstance (by decide)
instance : FieldOff Try.prog 111 5 5 := FieldOff.mk' (ft := 109) Try.underlying111 rfl rfl rfl inferInstance (by decide)
instance : FieldOff Try.prog 111 6 13 := FieldOff.mk' (ft := 4) Try.underlying111 rfl rfl rfl inferInstance (by decide)
instance : Inf Try.prog 112 1 8 (.nilFunc) := ⟨by kernel_rfl⟩
instance : Und Try.prog 112 (.func #[86, 109] #[] false) := ⟨Try.underlying112⟩
instance : Scal Try.prog 112 := Scal.mk' Try.underlying112 rfl inferInstance
instance : Inf Try.prog 113 1 0 (.tuple #[.int .i64 0, .bool false]) := ⟨by kernel_rfl⟩
instance : Inf Try.prog 114 1 24 (.slice none 0 0) := ⟨by kernel_rfl⟩
instance : Und Try.prog 114 (.slice 30) := ⟨Try.underlying114⟩
instance : Scal Try.prog 114 := Scal.mk' Try.underlying114 rfl inferInstance
instance : Inf Try.prog 115 1 8 (.map none) := ⟨by kernel_rfl⟩
instance : Und Try.prog 115 (.map 86 3) := ⟨Try.underlying115⟩
instance : Scal Try.prog 115 := Scal.mk' Try.underlying115 rfl inferInstance
instance : Inf Try.prog 116 1 24 (.slice none 0 0) := ⟨by kernel_rfl⟩
instance : Und Try.prog 116 (.slice 109) := ⟨Try.underlying116⟩
instance : Scal Try.prog 116 := Scal.mk' Try.underlying116 rfl inferInstance
instance : Inf Try.prog 117 7 136 (.agg #[.slice none 0 0, .map none, .slice none 0 0, .slice none 0 0, .slice none 0 0, .slice none 0 0, .bool false]) := ⟨by kernel_rfl⟩
instance : Aggr Try.prog 117 7 := Aggr.mk' Try.underlying117 rfl inferInstance
instance : Places Try.prog 117 [(0, 1), (1, 1), (2, 1), (3, 1), (4, 1), (5, 1), (6, 1)] := ⟨_, Try.underlying117, ⟨rfl, infSize (t := 114), rfl, infSize (t := 115), rfl, infSize (t := 116), rfl, infSize (t := 45), rfl, infSize (t := 45), rfl, infSize (t := 47), rfl, infSize (t := 4), trivial⟩⟩
instance : FieldOff Try.prog 117 0 0 := FieldOff.mk' (ft := 114) Try.underlying117 rfl rfl rfl inferInstance (by decide)
instance : FieldOff Try.prog 117 1 1 := FieldOff.mk' (ft := 115) Try.underlying117 rfl rfl rfl inferInstance (by decide)
instance : FieldOff Try.prog 117 2 2 := FieldOff.mk' (ft := 116) Try.underlying117 rfl rfl rfl inferInstance (by decide)
instance : FieldOff Try.prog 117 3 3 := FieldOff.mk' (ft := 45) Try.underlying117 rfl rfl rfl inferInstance (by decide)
instance : FieldOff Try.prog 117 4 4 := FieldOff.mk' (ft := 45) Try.underlying117 rfl rfl rfl inferInstance (by decide)
instance : FieldOff Try.prog 117 5 5 := FieldOff.mk' (ft := 47) Try.underlying117 rfl rfl rfl inferInstance (by decide)
instance : FieldOff Try.prog 117 6 6 := FieldOff.mk' (ft := 4) Try.underlying117 rfl rfl rfl inferInstance (by decide)
instance : Inf Try.prog 118 7 136 (.agg #[.slice none 0 0, .map none, .slice none 0 0, .slice none 0 0, .slice none 0 0, .slice none 0 0, .bool false]) := ⟨by kernel_rfl⟩
instance : Aggr Try.prog 118 7 := Aggr.mk' Try.underlying118 rfl inferInstance
instance : Places Try.prog 118 [(0, 1), (1, 1), (2, 1), (3, 1), (4, 1), (5, 1), (6, 1)] := ⟨_, Try.underlying118, ⟨rfl, infSize (t := 114), rfl, infSize (t := 115), rfl, infSize (t := 116), rfl, infSize (t := 45), rfl, infSize (t := 45), rfl, infSize (t := 47), rfl, infSize (t := 4), trivial⟩⟩
instance : FieldOff Try.prog 118 0 0 := FieldOff.mk' (ft := 114) Try.underlying118 rfl rfl rfl inferInstance (by decide)
instance : FieldOff Try.prog 118 1 1 := FieldOff.mk' (ft := 115) Try.underlying118 rfl rfl rfl inferInstance (by decide)
instance : FieldOff Try.prog 118 2 2 := FieldOff.mk' (ft := 116) Try.underlying118 rfl rfl rfl inferInstance (by decide)
instance : FieldOff Try.prog 118 3 3 := FieldOff.mk' (ft := 45) Try.underlying118 rfl rfl rfl inferInstance (by decide)
instance : FieldOff Try.prog 118 4 4 := FieldOff.mk' (ft := 45) Try.underlying118 rfl rfl rfl inferInstance (by decide)
instance : FieldOff Try.prog 118 5 5 := FieldOff.mk' (ft := 47) Try.underlying118 rfl rfl rfl inferInstance (by decide)
instance : FieldOff Try.prog 118 6 6 := FieldOff.mk' (ft := 4) Try.underlying118 rfl rfl rfl inferInstance (by decide)
instance : Inf Try.prog 119 1 8 (.nilFunc) := ⟨by kernel_rfl⟩
instance : Und Try.prog 119 (.func #[120] #[2] false) := ⟨Try.underlying119⟩
instance : Scal Try.prog 119 := Scal.mk' Try.underlying119 rfl inferInstance
instance : Inf Try.prog 120 1 8 (.pointer none) := ⟨by kernel_rfl⟩
instance : Und Try.prog 120 (.pointer 2) := ⟨Try.underlying120⟩
instance : Scal Try.prog 120 := Scal.mk' Try.underlying120 rfl inferInstance
instance : Inf Try.prog 121 1 8 (.nilFunc) := ⟨by kernel_rfl⟩
instance : Und Try.prog 121 (.func #[120, 2, 2] #[4] false) := ⟨Try.underlying121⟩
instance : Scal Try.prog 121 := Scal.mk' Try.underlying121 rfl inferInstance
instance : Inf Try.prog 122 1 8 (.nilFunc) := ⟨by kernel_rfl⟩
instance : Und Try.prog 122 (.func #[120, 2] #[] false) := ⟨Try.underlying122⟩
instance : Scal Try.prog 122 := Scal.mk' Try.underlying122 rfl inferInstance
instance : Inf Try.prog 123 1 8 (.nilFunc) := ⟨by kernel_rfl⟩
instance : Und Try.prog 123 (.func #[120, 2] #[2] false) := ⟨Try.underlying123⟩
instance : Scal Try.prog 123 := Scal.mk' Try.underlying123 rfl inferInstance
instance : Inf Try.prog 124 0 0 (.agg #[]) := ⟨by kernel_rfl⟩
instance : Aggr Try.prog 124 0 := Aggr.mk' Try.underlying124 rfl inferInstance
instance : Places Try.prog 124 [] := ⟨_, Try.underlying124, trivial⟩
instance : Inf Try.prog 125 1 8 (.pointer none) := ⟨by kernel_rfl⟩
instance : Und Try.prog 125 (.pointer 97) := ⟨Try.underlying125⟩
instance : Scal Try.prog 125 := Scal.mk' Try.underlying125 rfl inferInstance
instance : Inf Try.prog 126 1 8 (.pointer none) := ⟨by kernel_rfl⟩
instance : Und Try.prog 126 (.pointer 95) := ⟨Try.underlying126⟩
instance : Scal Try.prog 126 := Scal.mk' Try.underlying126 rfl inferInstance
instance : Inf Try.prog 127 1 8 (.nilFunc) := ⟨by kernel_rfl⟩
instance : Und Try.prog 127 (.func #[128, 21, 21] #[4] false) := ⟨Try.underlying127⟩
instance : Scal Try.prog 127 := Scal.mk' Try.underlying127 rfl inferInstance
instance : Inf Try.prog 128 1 8 (.pointer none) := ⟨by kernel_rfl⟩
instance : Und Try.prog 128 (.pointer 21) := ⟨Try.underlying128⟩
instance : Scal Try.prog 128 := Scal.mk' Try.underlying128 rfl inferInstance
instance : Inf Try.prog 129 1 8 (.nilFunc) := ⟨by kernel_rfl⟩
instance : Und Try.prog 129 (.func #[130] #[] false) := ⟨Try.underlying129⟩
instance : Scal Try.prog 129 := Scal.mk' Try.underlying129 rfl inferInstance
instance : Inf Try.prog 130 1 8 (.pointer none) := ⟨by kernel_rfl⟩
instance : Und Try.prog 130 (.unsafePointer) := ⟨Try.underlying130⟩
instance : Scal Try.prog 130 := Scal.mk' Try.underlying130 rfl inferInstance
instance : Inf Try.prog 131 1 8 (.nilFunc) := ⟨by kernel_rfl⟩
instance : Und Try.prog 131 (.func #[128, 21] #[21] false) := ⟨Try.underlying131⟩
instance : Scal Try.prog 131 := Scal.mk' Try.underlying131 rfl inferInstance
instance : Inf Try.prog 132 1 8 (.nilFunc) := ⟨by kernel_rfl⟩
instance : Und Try.prog 132 (.func #[21] #[] false) := ⟨Try.underlying132⟩
instance : Scal Try.prog 132 := Scal.mk' Try.underlying132 rfl inferInstance
instance : Inf Try.prog 133 1 8 (.int .u64 0) := ⟨by kernel_rfl⟩
instance : Und Try.prog 133 (.int .u64) := ⟨Try.underlying133⟩
instance : Scal Try.prog 133 := Scal.mk' Try.underlying133 rfl inferInstance
instance : Inf Try.prog 134 1 8 (.nilFunc) := ⟨by kernel_rfl⟩
instance : Und Try.prog 134 (.func #[9] #[] false) := ⟨Try.underlying134⟩
instance : Scal Try.prog 134 := Scal.mk' Try.underlying134 rfl inferInstance
instance : Inf Try.prog 135 1 8 (.nilFunc) := ⟨by kernel_rfl⟩
instance : Und Try.prog 135 (.func #[136, 4, 3] #[] false) := ⟨Try.underlying135⟩
instance : Scal Try.prog 135 := Scal.mk' Try.underlying135 rfl inferInstance
instance : Inf Try.prog 136 1 8 (.pointer none) := ⟨by kernel_rfl⟩
instance : Und Try.prog 136 (.pointer 93) := ⟨Try.underlying136⟩
instance : Scal Try.prog 136 := Scal.mk' Try.underlying136 rfl inferInstance
instance : Inf Try.prog 137 1 8 (.nilFunc) := ⟨by kernel_rfl⟩
instance : Und Try.prog 137 (.func #[] #[9] false) := ⟨Try.underlying137⟩
instance : Scal Try.prog 137 := Scal.mk' Try.underlying137 rfl inferInstance
instance : Inf Try.prog 138 4 40 (.agg #[.pointer none, .pointer none, .pointer none, .string .empty]) := ⟨by kernel_rfl⟩
instance : Aggr Try.prog 138 4 := Aggr.mk' Try.underlying138 rfl inferInstance
instance : Places Try.prog 138 [(0, 1), (1, 1), (2, 1), (3, 1)] := ⟨_, Try.underlying138, ⟨rfl, infSize (t := 17), rfl, infSize (t := 17), rfl, infSize (t := 17), rfl, infSize (t := 9), trivial⟩⟩
instance : FieldOff Try.prog 138 0 0 := FieldOff.mk' (ft := 17) Try.underlying138 rfl rfl rfl inferInstance (by decide)
instance : FieldOff Try.prog 138 1 1 := FieldOff.mk' (ft := 17) Try.underlying138 rfl rfl rfl inferInstance (by decide)
instance : FieldOff Try.prog 138 2 2 := FieldOff.mk' (ft := 17) Try.underlying138 rfl rfl rfl inferInstance (by decide)
instance : FieldOff Try.prog 138 3 3 := FieldOff.mk' (ft := 9) Try.underlying138 rfl rfl rfl inferInstance (by decide)
instance : Inf Try.prog 139 4 40 (.agg #[.pointer none, .pointer none, .pointer none, .string .empty]) := ⟨by kernel_rfl⟩
instance : Aggr Try.prog 139 4 := Aggr.mk' Try.underlying139 rfl inferInstance
instance : Places Try.prog 139 [(0, 1), (1, 1), (2, 1), (3, 1)] := ⟨_, Try.underlying139, ⟨rfl, infSize (t := 17), rfl, infSize (t := 17), rfl, infSize (t := 17), rfl, infSize (t := 9), trivial⟩⟩
instance : FieldOff Try.prog 139 0 0 := FieldOff.mk' (ft := 17) Try.underlying139 rfl rfl rfl inferInstance (by decide)
instance : FieldOff Try.prog 139 1 1 := FieldOff.mk' (ft := 17) Try.underlying139 rfl rfl rfl inferInstance (by decide)
instance : FieldOff Try.prog 139 2 2 := FieldOff.mk' (ft := 17) Try.underlying139 rfl rfl rfl inferInstance (by decide)
instance : FieldOff Try.prog 139 3 3 := FieldOff.mk' (ft := 9) Try.underlying139 rfl rfl rfl inferInstance (by decide)
instance : Inf Try.prog 140 0 0 (.agg #[]) := ⟨by kernel_rfl⟩
instance : Und Try.prog 140 (.array 0 16) := ⟨Try.underlying140⟩
instance : Aggr Try.prog 140 0 := Aggr.mk' Try.underlying140 rfl inferInstance
instance : Inf Try.prog 141 0 0 (.agg #[]) := ⟨by kernel_rfl⟩
instance : Aggr Try.prog 141 0 := Aggr.mk' Try.underlying141 rfl inferInstance
instance : Places Try.prog 141 [(0, 0)] := ⟨_, Try.underlying141, ⟨rfl, infSize (t := 140), trivial⟩⟩
instance : Inf Try.prog 142 0 0 (.agg #[]) := ⟨by kernel_rfl⟩
instance : Aggr Try.prog 142 0 := Aggr.mk' Try.underlying142 rfl inferInstance
instance : Places Try.prog 142 [(0, 0)] := ⟨_, Try.underlying142, ⟨rfl, infSize (t := 140), trivial⟩⟩
instance : Inf Try.prog 143 1 8 (.nilFunc) := ⟨by kernel_rfl⟩
instance : Und Try.prog 143 (.func #[] #[3] false) := ⟨Try.underlying143⟩
instance : Scal Try.prog 143 := Scal.mk' Try.underlying143 rfl inferInstance
instance : Inf Try.prog 144 1 1 (.int .u8 0) := ⟨by kernel_rfl⟩
instance : Und Try.prog 144 (.int .u8) := ⟨Try.underlying144⟩
instance : Scal Try.prog 144 := Scal.mk' Try.underlying144 rfl inferInstance
instance : Inf Try.prog 145 1 1 (.int .u8 0) := ⟨by kernel_rfl⟩
instance : Und Try.prog 145 (.int .u8) := ⟨Try.underlying145⟩
instance : Scal Try.prog 145 := Scal.mk' Try.underlying145 rfl inferInstance
instance : Inf Try.prog 146 1 8 (.nilFunc) := ⟨by kernel_rfl⟩
instance : Und Try.prog 146 (.func #[130, 130] #[4] false) := ⟨Try.underlying146⟩
instance : Scal Try.prog 146 := Scal.mk' Try.underlying146 rfl inferInstance
instance : Inf Try.prog 147 1 8 (.pointer none) := ⟨by kernel_rfl⟩
instance : Und Try.prog 147 (.pointer 5) := ⟨Try.underlying147⟩
instance : Scal Try.prog 147 := Scal.mk' Try.underlying147 rfl inferInstance
instance : Inf Try.prog 148 1 4 (.int .i32 0) := ⟨by kernel_rfl⟩
instance : Und Try.prog 148 (.int .i32) := ⟨Try.underlying148⟩
instance : Scal Try.prog 148 := Scal.mk' Try.underlying148 rfl inferInstance
instance : Inf Try.prog 149 1 4 (.int .i32 0) := ⟨by kernel_rfl⟩
instance : Und Try.prog 149 (.int .i32) := ⟨Try.underlying149⟩
instance : Scal Try.prog 149 := Scal.mk' Try.underlying149 rfl inferInstance
instance : Inf Try.prog 150 11 48 (.agg #[.int .u64 0, .int .u64 0, .int .u32 0, .int .u8 0, .int .u8 0, .int .u8 0, .int .u8 0, .nilFunc, .pointer none, .int .i32 0, .int .i32 0]) := ⟨by kernel_rfl⟩
instance : Aggr Try.prog 150 11 := Aggr.mk' Try.underlying150 rfl inferInstance
instance : Places Try.prog 150 [(0, 1), (1, 1), (2, 1), (3, 1), (4, 1), (5, 1), (6, 1), (7, 1), (8, 1), (9, 1), (10, 1)] := ⟨_, Try.underlying150, ⟨rfl, infSize (t := 12), rfl, infSize (t := 12), rfl, infSize (t := 93), rfl, infSize (t := 144), rfl, infSize (t := 5), rfl, infSize (t := 5), rfl, infSize (t := 145), rfl, infSize (t := 146), rfl, infSize (t := 147), rfl, infSize (t := 148), rfl, infSize (t := 149), trivial⟩⟩
instance : FieldOff Try.prog 150 0 0 := FieldOff.mk' (ft := 12) Try.underlying150 rfl rfl rfl inferInstance (by decide)
instance : FieldOff Try.prog 150 1 1 := FieldOff.mk' (ft := 12) Try.underlying150 rfl rfl rfl inferInstance (by decide)
instance : FieldOff Try.prog 150 2 2 := FieldOff.mk' (ft := 93) Try.underlying150 rfl rfl rfl inferInstance (by decide)
instance : FieldOff Try.prog 150 3 3 := FieldOff.mk' (ft := 144) Try.underlying150 rfl rfl rfl inferInstance (by decide)
instance : FieldOff Try.prog 150 4 4 := FieldOff.mk' (ft := 5) Try.underlying150 rfl rfl rfl inferInstance (by decide)
instance : FieldOff Try.prog 150 5 5 := FieldOff.mk' (ft := 5) Try.underlying150 rfl rfl rfl inferInstance (by decide)
instance : FieldOff Try.prog 150 6 6 := FieldOff.mk' (ft := 145) Try.underlying150 rfl rfl rfl inferInstance (by decide)
instance : FieldOff Try.prog 150 7 7 := FieldOff.mk' (ft := 146) Try.underlying150 rfl rfl rfl inferInstance (by decide)
instance : FieldOff Try.prog 150 8 8 := FieldOff.mk' (ft := 147) Try.underlying150 rfl rfl rfl inferInstance (by decide)
instance : FieldOff Try.prog 150 9 9 := FieldOff.mk' (ft := 148) Try.underlying150 rfl rfl rfl inferInstance (by decide)
instance : FieldOff Try.prog 150 10 10 := FieldOff.mk' (ft := 149) Try.underlying150 rfl rfl rfl inferInstance (by decide)
instance : Inf Try.prog 151 11 48 (.agg #[.int .u64 0, .int .u64 0, .int .u32 0, .int .u8 0, .int .u8 0, .int .u8 0, .int .u8 0, .nilFunc, .pointer none, .int .i32 0, .int .i32 0]) := ⟨by kernel_rfl⟩
instance : Aggr Try.prog 151 11 := Aggr.mk' Try.underlying151 rfl inferInstance
instance : Places Try.prog 151 [(0, 1), (1, 1), (2, 1), (3, 1), (4, 1), (5, 1), (6, 1), (7, 1), (8, 1), (9, 1), (10, 1)] := ⟨_, Try.underlying151, ⟨rfl, infSize (t := 12), rfl, infSize (t := 12), rfl, infSize (t := 93), rfl, infSize (t := 144), rfl, infSize (t := 5), rfl, infSize (t := 5), rfl, infSize (t := 145), rfl, infSize (t := 146), rfl, infSize (t := 147), rfl, infSize (t := 148), rfl, infSize (t := 149), trivial⟩⟩
instance : FieldOff Try.prog 151 0 0 := FieldOff.mk' (ft := 12) Try.underlying151 rfl rfl rfl inferInstance (by decide)
instance : FieldOff Try.prog 151 1 1 := FieldOff.mk' (ft := 12) Try.underlying151 rfl rfl rfl inferInstance (by decide)
instance : FieldOff Try.prog 151 2 2 := FieldOff.mk' (ft := 93) Try.underlying151 rfl rfl rfl inferInstance (by decide)
instance : FieldOff Try.prog 151 3 3 := FieldOff.mk' (ft := 144) Try.underlying151 rfl rfl rfl inferInstance (by decide)
instance : FieldOff Try.prog 151 4 4 := FieldOff.mk' (ft := 5) Try.underlying151 rfl rfl rfl inferInstance (by decide)
instance : FieldOff Try.prog 151 5 5 := FieldOff.mk' (ft := 5) Try.underlying151 rfl rfl rfl inferInstance (by decide)
instance : FieldOff Try.prog 151 6 6 := FieldOff.mk' (ft := 145) Try.underlying151 rfl rfl rfl inferInstance (by decide)
instance : FieldOff Try.prog 151 7 7 := FieldOff.mk' (ft := 146) Try.underlying151 rfl rfl rfl inferInstance (by decide)
instance : FieldOff Try.prog 151 8 8 := FieldOff.mk' (ft := 147) Try.underlying151 rfl rfl rfl inferInstance (by decide)
instance : FieldOff Try.prog 151 9 9 := FieldOff.mk' (ft := 148) Try.underlying151 rfl rfl rfl inferInstance (by decide)
instance : FieldOff Try.prog 151 10 10 := FieldOff.mk' (ft := 149) Try.underlying151 rfl rfl rfl inferInstance (by decide)
instance : Inf Try.prog 152 1 8 (.nilFunc) := ⟨by kernel_rfl⟩
instance : Und Try.prog 152 (.func #[] #[116] false) := ⟨Try.underlying152⟩
instance : Scal Try.prog 152 := Scal.mk' Try.underlying152 rfl inferInstance
instance : IsFn Try.prog 2 Try.f2 := ⟨Try.func2⟩
instance : HasBody Try.prog 2 := ⟨_, _, Try.func2, rfl, of_decide_eq_true (by kernel_rfl)⟩
instance : IsFn Try.prog 3 Try.f3 := ⟨Try.func3⟩
instance : HasBody Try.prog 3 := ⟨_, _, Try.func3, rfl, of_decide_eq_true (by kernel_rfl)⟩
instance : IsFn Try.prog 4 Try.f4 := ⟨Try.func4⟩
instance : HasBody Try.prog 4 := ⟨_, _, Try.func4, rfl, of_decide_eq_true (by kernel_rfl)⟩
instance : IsFn Try.prog 5 Try.f5 := ⟨Try.func5⟩
instance : HasBody Try.prog 5 := ⟨_, _, Try.func5, rfl, of_decide_eq_true (by kernel_rfl)⟩
instance : IsFn Try.prog 6 Try.f6 := ⟨Try.func6⟩
instance : HasBody Try.prog 6 := ⟨_, _, Try.func6, rfl, of_decide_eq_true (by kernel_rfl)⟩
instance : IsFn Try.prog 7 Try.f7 := ⟨Try.func7⟩
instance : HasBody Try.prog 7 := ⟨_, _, Try.func7, rfl, of_decide_eq_true (by kernel_rfl)⟩
instance : IsFn Try.prog 8 Try.f8 := ⟨Try.func8⟩
instance : HasBody Try.prog 8 := ⟨_, _, Try.func8, rfl, of_decide_eq_true (by kernel_rfl)⟩
instance : IsFn Try.prog 9 Try.f9 := ⟨Try.func9⟩
instance : HasBody Try.prog 9 := ⟨_, _, Try.func9, rfl, of_decide_eq_true (by kernel_rfl)⟩
instance : IsFn Try.prog 10 Try.f10 := ⟨Try.func10⟩
instance : HasBody Try.prog 10 := ⟨_, _, Try.func10, rfl, of_decide_eq_true (by kernel_rfl)⟩
instance : IsFn Try.prog 11 Try.f11 := ⟨Try.func11⟩
instance : HasBody Try.prog 11 := ⟨_, _, Try.func11, rfl, of_decide_eq_true (by kernel_rfl)⟩
instance : IsFn Try.prog 12 Try.f12 := ⟨Try.func12⟩
instance : HasBody Try.prog 12 := ⟨_, _, Try.func12, rfl, of_decide_eq_true (by kernel_rfl)⟩
instance : IsFn Try.prog 13 Try.f13 := ⟨Try.func13⟩
instance : HasBody Try.prog 13 := ⟨_, _, Try.func13, rfl, of_decide_eq_true (by kernel_rfl)⟩
instance : IsFn Try.prog 14 Try.f14 := ⟨Try.func14⟩
instance : HasBody Try.prog 14 := ⟨_, _, Try.func14, rfl, of_decide_eq_true (by kernel_rfl)⟩
instance : IsFn Try.prog 15 Try.f15 := ⟨Try.func15⟩
instance : HasBody Try.prog 15 := ⟨_, _, Try.func15, rfl, of_decide_eq_true (by kernel_rfl)⟩
instance : IsFn Try.prog 16 Try.f16 := ⟨Try.func16⟩
instance : HasBody Try.prog 16 := ⟨_, _, Try.func16, rfl, of_decide_eq_true (by kernel_rfl)⟩
instance : IsFn Try.prog 17 Try.f17 := ⟨Try.func17⟩
instance : HasBody Try.prog 17 := ⟨_, _, Try.func17, rfl, of_decide_eq_true (by kernel_rfl)⟩
instance : IsFn Try.prog 18 Try.f18 := ⟨Try.func18⟩
instance : HasBody Try.prog 18 := ⟨_, _, Try.func18, rfl, of_decide_eq_true (by kernel_rfl)⟩
instance : IsFn Try.prog 19 Try.f19 := ⟨Try.func19⟩
instance : HasBody Try.prog 19 := ⟨_, _, Try.func19, rfl, of_decide_eq_true (by kernel_rfl)⟩
instance : IsFn Try.prog 20 Try.f20 := ⟨Try.func20⟩
instance : HasBody Try.prog 20 := ⟨_, _, Try.func20, rfl, of_decide_eq_true (by kernel_rfl)⟩
instance : IsFn Try.prog 21 Try.f21 := ⟨Try.func21⟩
instance : HasBody Try.prog 21 := ⟨_, _, Try.func21, rfl, of_decide_eq_true (by kernel_rfl)⟩
instance : IsFn Try.prog 22 Try.f22 := ⟨Try.func22⟩
instance : HasBody Try.prog 22 := ⟨_, _, Try.func22, rfl, of_decide_eq_true (by kernel_rfl)⟩
instance : IsFn Try.prog 23 Try.f23 := ⟨Try.func23⟩
instance : HasBody Try.prog 23 := ⟨_, _, Try.func23, rfl, of_decide_eq_true (by kernel_rfl)⟩
instance : IsFn Try.prog 24 Try.f24 := ⟨Try.func24⟩
instance : HasBody Try.prog 24 := ⟨_, _, Try.func24, rfl, of_decide_eq_true (by kernel_rfl)⟩
instance : IsFn Try.prog 25 Try.f25 := ⟨Try.func25⟩
instance : HasBody Try.prog 25 := ⟨_, _, Try.func25, rfl, of_decide_eq_true (by kernel_rfl)⟩
instance : IsFn Try.prog 26 Try.f26 := ⟨Try.func26⟩
instance : HasBody Try.prog 26 := ⟨_, _, Try.func26, rfl, of_decide_eq_true (by kernel_rfl)⟩
instance : IsFn Try.prog 27 Try.f27 := ⟨Try.func27⟩
instance : HasBody Try.prog 27 := ⟨_, _, Try.func27, rfl, of_decide_eq_true (by kernel_rfl)⟩
instance : IsFn Try.prog 28 Try.f28 := ⟨Try.func28⟩
instance : HasBody Try.prog 28 := ⟨_, _, Try.func28, rfl, of_decide_eq_true (by kernel_rfl)⟩
instance : IsFn Try.prog 29 Try.f29 := ⟨Try.func29⟩
instance : HasBody Try.prog 29 := ⟨_, _, Try.func29, rfl, of_decide_eq_true (by kernel_rfl)⟩
instance : IsFn Try.prog 30 Try.f30 := ⟨Try.func30⟩
instance : HasBody Try.prog 30 := ⟨_, _, Try.func30, rfl, of_decide_eq_true (by kernel_rfl)⟩
instance : IsFn Try.prog 31 Try.f31 := ⟨Try.func31⟩
instance : HasBody Try.prog 31 := ⟨_, _, Try.func31, rfl, of_decide_eq_true (by kernel_rfl)⟩
instance : IsFn Try.prog 32 Try.f32 := ⟨Try.func32⟩
instance : HasBody Try.prog 32 := ⟨_, _, Try.func32, rfl, of_decide_eq_true (by kernel_rfl)⟩
instance : IsFn Try.prog 33 Try.f33 := ⟨Try.func33⟩
instance : HasBody Try.prog 33 := ⟨_, _, Try.func33, rfl, of_decide_eq_true (by kernel_rfl)⟩
instance : IsFn Try.prog 34 Try.f34 := ⟨Try.func34⟩
instance : HasBody Try.prog 34 := ⟨_, _, Try.func34, rfl, of_decide_eq_true (by kernel_rfl)⟩
instance : IsFn Try.prog 35 Try.f35 := ⟨Try.func35⟩
instance : HasBody Try.prog 35 := ⟨_, _, Try.func35, rfl, of_decide_eq_true (by kernel_rfl)⟩
instance : IsFn Try.prog 36 Try.f36 := ⟨Try.func36⟩
instance : HasBody Try.prog 36 := ⟨_, _, Try.func36, rfl, of_decide_eq_true (by kernel_rfl)⟩
instance : IsFn Try.prog 37 Try.f37 := ⟨Try.func37⟩
instance : HasBody Try.prog 37 := ⟨_, _, Try.func37, rfl, of_decide_eq_true (by kernel_rfl)⟩
instance : IsFn Try.prog 38 Try.f38 := ⟨Try.func38⟩
instance : HasBody Try.prog 38 := ⟨_, _, Try.func38, rfl, of_decide_eq_true (by kernel_rfl)⟩
instance : IsFn Try.prog 39 Try.f39 := ⟨Try.func39⟩
instance : HasBody Try.prog 39 := ⟨_, _, Try.func39, rfl, of_decide_eq_true (by kernel_rfl)⟩
instance : IsFn Try.prog 40 Try.f40 := ⟨Try.func40⟩
instance : HasBody Try.prog 40 := ⟨_, _, Try.func40, rfl, of_decide_eq_true (by kernel_rfl)⟩
instance : ExtFn Try.prog 41 (Extern.Atomic.loadT (.int .i64)) := ⟨_, Try.func41, by kernel_rfl, by kernel_rfl, by kernel_rfl, by kernel_rfl⟩
instance : ExtFn Try.prog 42 (Extern.Atomic.casT (.int .i64)) := ⟨_, Try.func42, by kernel_rfl, by kernel_rfl, by kernel_rfl, by kernel_rfl⟩
instance : IsFn Try.prog 43 Try.f43 := ⟨Try.func43⟩
instance : HasBody Try.prog 43 := ⟨_, _, Try.func43, rfl, of_decide_eq_true (by kernel_rfl)⟩
instance : IsFn Try.prog 44 Try.f44 := ⟨Try.func44⟩
instance : HasBody Try.prog 44 := ⟨_, _, Try.func44, rfl, of_decide_eq_true (by kernel_rfl)⟩
instance : ExtFn Try.prog 45 (Extern.Atomic.storeT) := ⟨_, Try.func45, by kernel_rfl, by kernel_rfl, by kernel_rfl, by kernel_rfl⟩
instance : ExtFn Try.prog 46 (Extern.Atomic.update (Op.intArith .add) .i64 true) := ⟨_, Try.func46, by kernel_rfl, by kernel_rfl, by kernel_rfl, by kernel_rfl⟩
instance : IsFn Try.prog 47 Try.f47 := ⟨Try.func47⟩
instance : HasBody Try.prog 47 := ⟨_, _, Try.func47, rfl, of_decide_eq_true (by kernel_rfl)⟩
instance : IsFn Try.prog 48 Try.f48 := ⟨Try.func48⟩
instance : HasBody Try.prog 48 := ⟨_, _, Try.func48, rfl, of_decide_eq_true (by kernel_rfl)⟩
instance : ExtFn Try.prog 49 (fun _ => do mark .disable; pure Extern.Race.none_) := ⟨_, Try.func49, by kernel_rfl, by kernel_rfl, by kernel_rfl, by kernel_rfl⟩
instance : ExtFn Try.prog 50 (Extern.Atomic.casT (.int .i32)) := ⟨_, Try.func50, by kernel_rfl, by kernel_rfl, by kernel_rfl, by kernel_rfl⟩
instance : ExtFn Try.prog 51 (fun _ => do mark .enable; pure Extern.Race.none_) := ⟨_, Try.func51, by kernel_rfl, by kernel_rfl, by kernel_rfl, by kernel_rfl⟩
instance : ExtFn Try.prog 52 (Extern.Race.marked .acquire) := ⟨_, Try.func52, by kernel_rfl, by kernel_rfl, by kernel_rfl, by kernel_rfl⟩
instance : IsFn Try.prog 53 Try.f53 := ⟨Try.func53⟩
instance : HasBody Try.prog 53 := ⟨_, _, Try.func53, rfl, of_decide_eq_true (by kernel_rfl)⟩
instance : ExtFn Try.prog 54 (Extern.Race.marked .releaseMerge) := ⟨_, Try.func54, by kernel_rfl, by kernel_rfl, by kernel_rfl, by kernel_rfl⟩
instance : ExtFn Try.prog 55 (Extern.Atomic.update (Op.intArith .add) .i32 true) := ⟨_, Try.func55, by kernel_rfl, by kernel_rfl, by kernel_rfl, by kernel_rfl⟩
instance : IsFn Try.prog 56 Try.f56 := ⟨Try.func56⟩
instance : HasBody Try.prog 56 := ⟨_, _, Try.func56, rfl, of_decide_eq_true (by kernel_rfl)⟩
end Go.Proofs.Ytlhpgoddoglhaaa
