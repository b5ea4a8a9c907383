/- The facts of this seat (types and functions of its translation), by program, as instances of the classes of the rules. No condition. -/
import Derived.Test.YtkppboglffdmnaaProg
import Derived.Test.YtkppboglffdmnaaTjQ
import Derived.KernelRfl
namespace Go.Proofs.Ytkppboglffdmnaa
open Go Go.TJ Go.Proofs
instance : Inf Try.prog 0 1 0 (.tuple #[]) := ⟨by kernel_rfl⟩
instance : Inf Try.prog 1 1 8 (.nilFunc) := ⟨by kernel_rfl⟩
instance : Und Try.prog 1 (.func #[] #[] false) := ⟨Try.underlying1⟩
instance : Scal Try.prog 1 := Scal.mk' Try.underlying1 rfl inferInstance
instance : Inf Try.prog 2 1 8 (.int .i64 0) := ⟨by kernel_rfl⟩
instance : Und Try.prog 2 (.int .i64) := ⟨Try.underlying2⟩
instance : Scal Try.prog 2 := Scal.mk' Try.underlying2 rfl inferInstance
instance : Inf Try.prog 3 1 8 (.int .i64 0) := ⟨by kernel_rfl⟩
instance : Und Try.prog 3 (.int .i64) := ⟨Try.underlying3⟩
instance : Scal Try.prog 3 := Scal.mk' Try.underlying3 rfl inferInstance
instance : Inf Try.prog 4 1 1 (.bool false) := ⟨by kernel_rfl⟩
instance : Und Try.prog 4 (.bool) := ⟨Try.underlying4⟩
instance : Scal Try.prog 4 := Scal.mk' Try.underlying4 rfl inferInstance
instance : Inf Try.prog 5 1 1 (.int .u8 0) := ⟨by kernel_rfl⟩
instance : Und Try.prog 5 (.int .u8) := ⟨Try.underlying5⟩
instance : Scal Try.prog 5 := Scal.mk' Try.underlying5 rfl inferInstance
instance : Inf Try.prog 6 1 1 (.int .u8 0) := ⟨by kernel_rfl⟩
instance : Und Try.prog 6 (.int .u8) := ⟨Try.underlying6⟩
instance : Scal Try.prog 6 := Scal.mk' Try.underlying6 rfl inferInstance
instance : Inf Try.prog 7 4 24 (.agg #[.int .i64 0, .int .i64 0, .bool false, .int .u8 0]) := ⟨by kernel_rfl⟩
instance : Aggr Try.prog 7 4 := Aggr.mk' Try.underlying7 rfl inferInstance
instance : Places Try.prog 7 [(0, 1), (1, 1), (2, 1), (3, 1)] := ⟨_, Try.underlying7, ⟨rfl, infSize (t := 2), rfl, infSize (t := 3), rfl, infSize (t := 4), rfl, infSize (t := 6), trivial⟩⟩
instance : FieldOff Try.prog 7 0 0 := FieldOff.mk' (ft := 2) Try.underlying7 rfl rfl rfl inferInstance (by decide)
instance : FieldOff Try.prog 7 1 1 := FieldOff.mk' (ft := 3) Try.underlying7 rfl rfl rfl inferInstance (by decide)
instance : FieldOff Try.prog 7 2 2 := FieldOff.mk' (ft := 4) Try.underlying7 rfl rfl rfl inferInstance (by decide)
instance : FieldOff Try.prog 7 3 3 := FieldOff.mk' (ft := 6) Try.underlying7 rfl rfl rfl inferInstance (by decide)
instance : Inf Try.prog 8 4 24 (.agg #[.int .i64 0, .int .i64 0, .bool false, .int .u8 0]) := ⟨by kernel_rfl⟩
instance : Aggr Try.prog 8 4 := Aggr.mk' Try.underlying8 rfl inferInstance
instance : Places Try.prog 8 [(0, 1), (1, 1), (2, 1), (3, 1)] := ⟨_, Try.underlying8, ⟨rfl, infSize (t := 2), rfl, infSize (t := 3), rfl, infSize (t := 4), rfl, infSize (t := 6), trivial⟩⟩
instance : FieldOff Try.prog 8 0 0 := FieldOff.mk' (ft := 2) Try.underlying8 rfl rfl rfl inferInstance (by decide)
instance : FieldOff Try.prog 8 1 1 := FieldOff.mk' (ft := 3) Try.underlying8 rfl rfl rfl inferInstance (by decide)
instance : FieldOff Try.prog 8 2 2 := FieldOff.mk' (ft := 4) Try.underlying8 rfl rfl rfl inferInstance (by decide)
instance : FieldOff Try.prog 8 3 3 := FieldOff.mk' (ft := 6) Try.underlying8 rfl rfl rfl inferInstance (by decide)
instance : Inf Try.prog 9 1 16 (.string .empty) := ⟨by kernel_rfl⟩
instance : Und Try.prog 9 (.string) := ⟨Try.underlying9⟩
instance : Scal Try.prog 9 := Scal.mk' Try.underlying9 rfl inferInstance
instance : Inf Try.prog 10 1 16 (.string .empty) := ⟨by kernel_rfl⟩
instance : Und Try.prog 10 (.string) := ⟨Try.underlying10⟩
instance : Scal Try.prog 10 := Scal.mk' Try.underlying10 rfl inferInstance
instance : Inf Try.prog 11 1 16 (.string .empty) := ⟨by kernel_rfl⟩
instance : Und Try.prog 11 (.string) := ⟨Try.underlying11⟩
instance : Scal Try.prog 11 := Scal.mk' Try.underlying11 rfl inferInstance
instance : Inf Try.prog 12 1 8 (.int .u64 0) := ⟨by kernel_rfl⟩
instance : Und Try.prog 12 (.int .u64) := ⟨Try.underlying12⟩
instance : Scal Try.prog 12 := Scal.mk' Try.underlying12 rfl inferInstance
instance : Inf Try.prog 13 2 24 (.agg #[.string .empty, .int .u64 0]) := ⟨by kernel_rfl⟩
instance : Aggr Try.prog 13 2 := Aggr.mk' Try.underlying13 rfl inferInstance
instance : Places Try.prog 13 [(0, 1), (1, 1)] := ⟨_, Try.underlying13, ⟨rfl, infSize (t := 9), rfl, infSize (t := 12), trivial⟩⟩
instance : FieldOff Try.prog 13 0 0 := FieldOff.mk' (ft := 9) Try.underlying13 rfl rfl rfl inferInstance (by decide)
instance : FieldOff Try.prog 13 1 1 := FieldOff.mk' (ft := 12) Try.underlying13 rfl rfl rfl inferInstance (by decide)
instance : Inf Try.prog 14 2 24 (.agg #[.string .empty, .int .u64 0]) := ⟨by kernel_rfl⟩
instance : Aggr Try.prog 14 2 := Aggr.mk' Try.underlying14 rfl inferInstance
instance : Places Try.prog 14 [(0, 1), (1, 1)] := ⟨_, Try.underlying14, ⟨rfl, infSize (t := 9), rfl, infSize (t := 12), trivial⟩⟩
instance : FieldOff Try.prog 14 0 0 := FieldOff.mk' (ft := 9) Try.underlying14 rfl rfl rfl inferInstance (by decide)
instance : FieldOff Try.prog 14 1 1 := FieldOff.mk' (ft := 12) Try.underlying14 rfl rfl rfl inferInstance (by decide)
instance : Inf Try.prog 15 1 8 (.pointer none) := ⟨by kernel_rfl⟩
instance : Und Try.prog 15 (.pointer 305) := ⟨Try.underlying15⟩
instance : Scal Try.prog 15 := Scal.mk' Try.underlying15 rfl inferInstance
instance : Inf Try.prog 16 1 8 (.pointer none) := ⟨by kernel_rfl⟩
instance : Und Try.prog 16 (.pointer 308) := ⟨Try.underlying16⟩
instance : Scal Try.prog 16 := Scal.mk' Try.underlying16 rfl inferInstance
instance : Inf Try.prog 17 1 8 (.pointer none) := ⟨by kernel_rfl⟩
instance : Und Try.prog 17 (.pointer 317) := ⟨Try.underlying17⟩
instance : Scal Try.prog 17 := Scal.mk' Try.underlying17 rfl inferInstance
instance : Inf Try.prog 18 1 8 (.agg #[.pointer none]) := ⟨by kernel_rfl⟩
instance : Aggr Try.prog 18 1 := Aggr.mk' Try.underlying18 rfl inferInstance
instance : Places Try.prog 18 [(0, 1)] := ⟨_, Try.underlying18, ⟨rfl, infSize (t := 17), trivial⟩⟩
instance : FieldOff Try.prog 18 0 0 := FieldOff.mk' (ft := 17) Try.underlying18 rfl rfl rfl inferInstance (by decide)
instance : Inf Try.prog 19 1 8 (.agg #[.pointer none]) := ⟨by kernel_rfl⟩
instance : Aggr Try.prog 19 1 := Aggr.mk' Try.underlying19 rfl inferInstance
instance : Places Try.prog 19 [(0, 1)] := ⟨_, Try.underlying19, ⟨rfl, infSize (t := 17), trivial⟩⟩
instance : FieldOff Try.prog 19 0 0 := FieldOff.mk' (ft := 17) Try.underlying19 rfl rfl rfl inferInstance (by decide)
instance : Inf Try.prog 20 1 16 (.nilIface) := ⟨by kernel_rfl⟩
instance : Scal Try.prog 20 := Scal.mk' Try.underlying20 rfl inferInstance
instance : Inf Try.prog 21 1 4 (.int .i32 0) := ⟨by kernel_rfl⟩
instance : Und Try.prog 21 (.int .i32) := ⟨Try.underlying21⟩
instance : Scal Try.prog 21 := Scal.mk' Try.underlying21 rfl inferInstance
instance : Inf Try.prog 22 1 8 (.agg #[.int .i64 0]) := ⟨by kernel_rfl⟩
instance : Aggr Try.prog 22 1 := Aggr.mk' Try.underlying22 rfl inferInstance
instance : Places Try.prog 22 [(0, 1)] := ⟨_, Try.underlying22, ⟨rfl, infSize (t := 3), trivial⟩⟩
instance : FieldOff Try.prog 22 0 0 := FieldOff.mk' (ft := 3) Try.underlying22 rfl rfl rfl inferInstance (by decide)
instance : Inf Try.prog 23 1 8 (.agg #[.int .i64 0]) := ⟨by kernel_rfl⟩
instance : Aggr Try.prog 23 1 := Aggr.mk' Try.underlying23 rfl inferInstance
instance : Places Try.prog 23 [(0, 1)] := ⟨_, Try.underlying23, ⟨rfl, infSize (t := 3), trivial⟩⟩
instance : FieldOff Try.prog 23 0 0 := FieldOff.mk' (ft := 3) Try.underlying23 rfl rfl rfl inferInstance (by decide)
instance : Inf Try.prog 24 1 24 (.slice none 0 0) := ⟨by kernel_rfl⟩
instance : Und Try.prog 24 (.slice 33) := ⟨Try.underlying24⟩
instance : Scal Try.prog 24 := Scal.mk' Try.underlying24 rfl inferInstance
instance : Inf Try.prog 25 1 24 (.slice none 0 0) := ⟨by kernel_rfl⟩
instance : Und Try.prog 25 (.slice 3) := ⟨Try.underlying25⟩
instance : Scal Try.prog 25 := Scal.mk' Try.underlying25 rfl inferInstance
instance : Inf Try.prog 26 3 56 (.agg #[.int .i64 0, .slice none 0 0, .slice none 0 0]) := ⟨by kernel_rfl⟩
instance : Aggr Try.prog 26 3 := Aggr.mk' Try.underlying26 rfl inferInstance
instance : Places Try.prog 26 [(0, 1), (1, 1), (2, 1)] := ⟨_, Try.underlying26, ⟨rfl, infSize (t := 23), rfl, infSize (t := 24), rfl, infSize (t := 25), trivial⟩⟩
instance : FieldOff Try.prog 26 0 0 := FieldOff.mk' (ft := 23) Try.underlying26 rfl rfl rfl inferInstance (by decide)
instance : FieldOff Try.prog 26 1 1 := FieldOff.mk' (ft := 24) Try.underlying26 rfl rfl rfl inferInstance (by decide)
instance : FieldOff Try.prog 26 2 2 := FieldOff.mk' (ft := 25) Try.underlying26 rfl rfl rfl inferInstance (by decide)
instance : Inf Try.prog 27 3 56 (.agg #[.int .i64 0, .slice none 0 0, .slice none 0 0]) := ⟨by kernel_rfl⟩
instance : Aggr Try.prog 27 3 := Aggr.mk' Try.underlying27 rfl inferInstance
instance : Places Try.prog 27 [(0, 1), (1, 1), (2, 1)] := ⟨_, Try.underlying27, ⟨rfl, infSize (t := 23), rfl, infSize (t := 24), rfl, infSize (t := 25), trivial⟩⟩
instance : FieldOff Try.prog 27 0 0 := FieldOff.mk' (ft := 23) Try.underlying27 rfl rfl rfl inferInstance (by decide)
instance : FieldOff Try.prog 27 1 1 := FieldOff.mk' (ft := 24) Try.underlying27 rfl rfl rfl inferInstance (by decide)
instance : FieldOff Try.prog 27 2 2 := FieldOff.mk' (ft := 25) Try.underlying27 rfl rfl rfl inferInstance (by decide)
instance : Inf Try.prog 28 1 8 (.nilFunc) := ⟨by kernel_rfl⟩
instance : Und Try.prog 28 (.func #[] #[4] false) := ⟨Try.underlying28⟩
instance : Scal Try.prog 28 := Scal.mk' Try.underlying28 rfl inferInstance
instance : Inf Try.prog 29 1 8 (.pointer none) := ⟨by kernel_rfl⟩
instance : Und Try.prog 29 (.pointer 44) := ⟨Try.underlying29⟩
instance : Scal Try.prog 29 := Scal.mk' Try.underlying29 rfl inferInstance
instance : Inf Try.prog 30 1 8 (.nilFunc) := ⟨by kernel_rfl⟩
instance : Und Try.prog 30 (.func #[27] #[29] false) := ⟨Try.underlying30⟩
instance : Scal Try.prog 30 := Scal.mk' Try.underlying30 rfl inferInstance
instance : Inf Try.prog 31 1 24 (.slice none 0 0) := ⟨by kernel_rfl⟩
instance : Und Try.prog 31 (.slice 45) := ⟨Try.underlying31⟩
instance : Scal Try.prog 31 := Scal.mk' Try.underlying31 rfl inferInstance
instance : Inf Try.prog 32 1 8 (.pointer none) := ⟨by kernel_rfl⟩
instance : Und Try.prog 32 (.pointer 199) := ⟨Try.underlying32⟩
instance : Scal Try.prog 32 := Scal.mk' Try.underlying32 rfl inferInstance
instance : Inf Try.prog 33 1 24 (.slice none 0 0) := ⟨by kernel_rfl⟩
instance : Und Try.prog 33 (.slice 39) := ⟨Try.underlying33⟩
instance : Scal Try.prog 33 := Scal.mk' Try.underlying33 rfl inferInstance
instance : Inf Try.prog 34 1 8 (.int .i64 0) := ⟨by kernel_rfl⟩
instance : Und Try.prog 34 (.int .i64) := ⟨Try.underlying34⟩
instance : Scal Try.prog 34 := Scal.mk' Try.underlying34 rfl inferInstance
instance : Inf Try.prog 35 3 24 (.agg #[.int .i64 0, .bool false, .int .i64 0]) := ⟨by kernel_rfl⟩
instance : Aggr Try.prog 35 3 := Aggr.mk' Try.underlying35 rfl inferInstance
instance : Places Try.prog 35 [(0, 1), (1, 1), (2, 1)] := ⟨_, Try.underlying35, ⟨rfl, infSize (t := 2), rfl, infSize (t := 4), rfl, infSize (t := 34), trivial⟩⟩
instance : FieldOff Try.prog 35 0 0 := FieldOff.mk' (ft := 2) Try.underlying35 rfl rfl rfl inferInstance (by decide)
instance : FieldOff Try.prog 35 1 1 := FieldOff.mk' (ft := 4) Try.underlying35 rfl rfl rfl inferInstance (by decide)
instance : FieldOff Try.prog 35 2 2 := FieldOff.mk' (ft := 34) Try.underlying35 rfl rfl rfl inferInstance (by decide)
instance : Inf Try.prog 36 3 24 (.agg #[.int .i64 0, .bool false, .int .i64 0]) := ⟨by kernel_rfl⟩
instance : Aggr Try.prog 36 3 := Aggr.mk' Try.underlying36 rfl inferInstance
instance : Places Try.prog 36 [(0, 1), (1, 1), (2, 1)] := ⟨_, Try.underlying36, ⟨rfl, infSize (t := 2), rfl, infSize (t := 4), rfl, infSize (t := 34), trivial⟩⟩
instance : FieldOff Try.prog 36 0 0 := FieldOff.mk' (ft := 2) Try.underlying36 rfl rfl rfl inferInstance (by decide)
instance : FieldOff Try.prog 36 1 1 := FieldOff.mk' (ft := 4) Try.underlying36 rfl rfl rfl inferInstance (by decide)
instance : FieldOff Try.prog 36 2 2 := FieldOff.mk' (ft := 34) Try.underlying36 rfl rfl rfl inferInstance (by decide)
instance : Inf Try.prog 37 1 8 (.nilFunc) := ⟨by kernel_rfl⟩
instance : Und Try.prog 37 (.func #[32, 39] #[36] false) := ⟨Try.underlying37⟩
instance : Scal Try.prog 37 := Scal.mk' Try.underlying37 rfl inferInstance
instance : Inf Try.prog 38 2 16 (.agg #[.int .i64 0, .int .i64 0]) := ⟨by kernel_rfl⟩
instance : Aggr Try.prog 38 2 := Aggr.mk' Try.underlying38 rfl inferInstance
instance : Places Try.prog 38 [(0, 1), (1, 1)] := ⟨_, Try.underlying38, ⟨rfl, infSize (t := 3), rfl, infSize (t := 2), trivial⟩⟩
instance : EqI2 Try.prog 38 .i64 .i64 := ⟨by kernel_rfl, by kernel_rfl, _, _, Try.underlying38, by decide, by decide, rfl, rfl, Try.underlying3, Try.underlying2⟩
instance : FieldOff Try.prog 38 0 0 := FieldOff.mk' (ft := 3) Try.underlying38 rfl rfl rfl inferInstance (by decide)
instance : FieldOff Try.prog 38 1 1 := FieldOff.mk' (ft := 2) Try.underlying38 rfl rfl rfl inferInstance (by decide)
instance : Inf Try.prog 39 2 16 (.agg #[.int .i64 0, .int .i64 0]) := ⟨by kernel_rfl⟩
instance : Aggr Try.prog 39 2 := Aggr.mk' Try.underlying39 rfl inferInstance
instance : Places Try.prog 39 [(0, 1), (1, 1)] := ⟨_, Try.underlying39, ⟨rfl, infSize (t := 3), rfl, infSize (t := 2), trivial⟩⟩
instance : EqI2 Try.prog 39 .i64 .i64 := ⟨by kernel_rfl, by kernel_rfl, _, _, Try.underlying39, by decide, by decide, rfl, rfl, Try.underlying3, Try.underlying2⟩
instance : FieldOff Try.prog 39 0 0 := FieldOff.mk' (ft := 3) Try.underlying39 rfl rfl rfl inferInstance (by decide)
instance : FieldOff Try.prog 39 1 1 := FieldOff.mk' (ft := 2) Try.underlying39 rfl rfl rfl inferInstance (by decide)
instance : Inf Try.prog 40 1 24 (.slice none 0 0) := ⟨by kernel_rfl⟩
instance : Und Try.prog 40 (.slice 36) := ⟨Try.underlying40⟩
instance : Scal Try.prog 40 := Scal.mk' Try.underlying40 rfl inferInstance
instance : Inf Try.prog 41 1 8 (.pointer none) := ⟨by kernel_rfl⟩
instance : Und Try.prog 41 (.pointer 79) := ⟨Try.underlying41⟩
instance : Scal Try.prog 41 := Scal.mk' Try.underlying41 rfl inferInstance
instance : Inf Try.prog 42 1 24 (.slice none 0 0) := ⟨by kernel_rfl⟩
instance : Und Try.prog 42 (.slice 40) := ⟨Try.underlying42⟩
instance : Scal Try.prog 42 := Scal.mk' Try.underlying42 rfl inferInstance
instance : Inf Try.prog 43 2 32 (.agg #[.pointer none, .slice none 0 0]) := ⟨by kernel_rfl⟩
instance : Aggr Try.prog 43 2 := Aggr.mk' Try.underlying43 rfl inferInstance
instance : Places Try.prog 43 [(0, 1), (1, 1)] := ⟨_, Try.underlying43, ⟨rfl, infSize (t := 41), rfl, infSize (t := 42), trivial⟩⟩
instance : FieldOff Try.prog 43 0 0 := FieldOff.mk' (ft := 41) Try.underlying43 rfl rfl rfl inferInstance (by decide)
instance : FieldOff Try.prog 43 1 1 := FieldOff.mk' (ft := 42) Try.underlying43 rfl rfl rfl inferInstance (by decide)
instance : Inf Try.prog 44 2 32 (.agg #[.pointer none, .slice none 0 0]) := ⟨by kernel_rfl⟩
instance : Aggr Try.prog 44 2 := Aggr.mk' Try.underlying44 rfl inferInstance
instance : Places Try.prog 44 [(0, 1), (1, 1)] := ⟨_, Try.underlying44, ⟨rfl, infSize (t := 41), rfl, infSize (t := 42), trivial⟩⟩
instance : FieldOff Try.prog 44 0 0 := FieldOff.mk' (ft := 41) Try.underlying44 rfl rfl rfl inferInstance (by decide)
instance : FieldOff Try.prog 44 1 1 := FieldOff.mk' (ft := 42) Try.underlying44 rfl rfl rfl inferInstance (by decide)
instance : Inf Try.prog 45 1 8 (.nilFunc) := ⟨by kernel_rfl⟩
instance : Und Try.prog 45 (.func #[32] #[] false) := ⟨Try.underlying45⟩
instance : Scal Try.prog 45 := Scal.mk' Try.underlying45 rfl inferInstance
instance : Inf Try.prog 46 1 1 (.int .i8 0) := ⟨by kernel_rfl⟩
instance : Und Try.prog 46 (.int .i8) := ⟨Try.underlying46⟩
instance : Scal Try.prog 46 := Scal.mk' Try.underlying46 rfl inferInstance
instance : Inf Try.prog 47 1 24 (.slice none 0 0) := ⟨by kernel_rfl⟩
instance : Und Try.prog 47 (.slice 75) := ⟨Try.underlying47⟩
instance : Scal Try.prog 47 := Scal.mk' Try.underlying47 rfl inferInstance
instance : Inf Try.prog 48 7 136 (.agg #[.int .i8 0, .int .i64 0, .slice none 0 0, .slice none 0 0, .slice none 0 0, .slice none 0 0, .slice none 0 0]) := ⟨by kernel_rfl⟩
instance : Aggr Try.prog 48 7 := Aggr.mk' Try.underlying48 rfl inferInstance
instance : Places Try.prog 48 [(0, 1), (1, 1), (2, 1), (3, 1), (4, 1), (5, 1), (6, 1)] := ⟨_, Try.underlying48, ⟨rfl, infSize (t := 46), rfl, infSize (t := 3), rfl, infSize (t := 47), rfl, infSize (t := 25), rfl, infSize (t := 25), rfl, infSize (t := 47), rfl, infSize (t := 25), trivial⟩⟩
instance : FieldOff Try.prog 48 0 0 := FieldOff.mk' (ft := 46) Try.underlying48 rfl rfl rfl inferInstance (by decide)
instance : FieldOff Try.prog 48 1 1 := FieldOff.mk' (ft := 3) Try.underlying48 rfl rfl rfl inferInstance (by decide)
instance : FieldOff Try.prog 48 2 2 := FieldOff.mk' (ft := 47) Try.underlying48 rfl rfl rfl inferInstance (by decide)
instance : FieldOff Try.prog 48 3 3 := FieldOff.mk' (ft := 25) Try.underlying48 rfl rfl rfl inferInstance (by decide)
instance : FieldOff Try.prog 48 4 4 := FieldOff.mk' (ft := 25) Try.underlying48 rfl rfl rfl inferInstance (by decide)
instance : FieldOff Try.prog 48 5 5 := FieldOff.mk' (ft := 47) Try.underlying48 rfl rfl rfl inferInstance (by decide)
instance : FieldOff Try.prog 48 6 6 := FieldOff.mk' (ft := 25) Try.underlying48 rfl rfl rfl inferInstance (by decide)
instance : Inf Try.prog 49 7 136 (.agg #[.int .i8 0, .int .i64 0, .slice none 0 0, .slice none 0 0, .slice none 0 0, .slice none 0 0, .slice none 0 0]) := ⟨by kernel_rfl⟩
instance : Aggr Try.prog 49 7 := Aggr.mk' Try.underlying49 rfl inferInstance
instance : Places Try.prog 49 [(0, 1), (1, 1), (2, 1), (3, 1), (4, 1), (5, 1), (6, 1)] := ⟨_, Try.underlying49, ⟨rfl, infSize (t := 46), rfl, infSize (t := 3), rfl, infSize (t := 47), rfl, infSize (t := 25), rfl, infSize (t := 25), rfl, infSize (t := 47), rfl, infSize (t := 25), trivial⟩⟩
instance : FieldOff Try.prog 49 0 0 := FieldOff.mk' (ft := 46) Try.underlying49 rfl rfl rfl inferInstance (by decide)
instance : FieldOff Try.prog 49 1 1 := FieldOff.mk' (ft := 3) Try.underlying49 rfl rfl rfl inferInstance (by decide)
instance : FieldOff Try.prog 49 2 2 := FieldOff.mk' (ft := 47) Try.underlying49 rfl rfl rfl inferInstance (by decide)
instance : FieldOff Try.prog 49 3 3 := FieldOff.mk' (ft := 25) Try.underlying49 rfl rfl rfl inferInstance (by decide)
instance : FieldOff Try.prog 49 4 4 := FieldOff.mk' (ft := 25) Try.underlying49 rfl rfl rfl inferInstance (by decide)
instance : FieldOff Try.prog 49 5 5 := FieldOff.mk' (ft := 47) Try.underlying49 rfl rfl rfl inferInstance (by decide)
instance : FieldOff Try.prog 49 6 6 := FieldOff.mk' (ft := 25) Try.underlying49 rfl rfl rfl inferInstance (by decide)
instance : Inf Try.prog 50 1 8 (.nilFunc) := ⟨by kernel_rfl⟩
instance : Und Try.prog 50 (.func #[25, 3, 31] #[49] true) := ⟨Try.underlying50⟩
instance : Scal Try.prog 50 := Scal.mk' Try.underlying50 rfl inferInstance
instance : Inf Try.prog 51 1 8 (.nilFunc) := ⟨by kernel_rfl⟩
instance : Und Try.prog 51 (.func #[25] #[25] false) := ⟨Try.underlying51⟩
instance : Scal Try.prog 51 := Scal.mk' Try.underlying51 rfl inferInstance
instance : Inf Try.prog 52 1 8 (.nilFunc) := ⟨by kernel_rfl⟩
instance : Und Try.prog 52 (.func #[49, 3, 25, 3] #[4] false) := ⟨Try.underlying52⟩
instance : Scal Try.prog 52 := Scal.mk' Try.underlying52 rfl inferInstance
instance : Inf Try.prog 53 1 8 (.pointer none) := ⟨by kernel_rfl⟩
instance : Und Try.prog 53 (.pointer 66) := ⟨Try.underlying53⟩
instance : Scal Try.prog 53 := Scal.mk' Try.underlying53 rfl inferInstance
instance : Inf Try.prog 54 1 8 (.nilFunc) := ⟨by kernel_rfl⟩
instance : Und Try.prog 54 (.func #[49] #[53] false) := ⟨Try.underlying54⟩
instance : Scal Try.prog 54 := Scal.mk' Try.underlying54 rfl inferInstance
instance : Inf Try.prog 55 1 8 (.nilFunc) := ⟨by kernel_rfl⟩
instance : Und Try.prog 55 (.func #[53, 23] #[] false) := ⟨Try.underlying55⟩
instance : Scal Try.prog 55 := Scal.mk' Try.underlying55 rfl inferInstance
instance : Inf Try.prog 56 1 8 (.pointer none) := ⟨by kernel_rfl⟩
instance : Und Try.prog 56 (.pointer 60) := ⟨Try.underlying56⟩
instance : Scal Try.prog 56 := Scal.mk' Try.underlying56 rfl inferInstance
instance : Inf Try.prog 57 1 8 (.nilFunc) := ⟨by kernel_rfl⟩
instance : Und Try.prog 57 (.func #[3] #[56] false) := ⟨Try.underlying57⟩
instance : Scal Try.prog 57 := Scal.mk' Try.underlying57 rfl inferInstance
instance : Inf Try.prog 58 1 8 (.nilFunc) := ⟨by kernel_rfl⟩
instance : Und Try.prog 58 (.func #[56, 23, 39] #[36] false) := ⟨Try.underlying58⟩
instance : Scal Try.prog 58 := Scal.mk' Try.underlying58 rfl inferInstance
instance : Inf Try.prog 59 4 32 (.agg #[.pointer none, .int .i64 0, .bool false, .int .i64 0]) := ⟨by kernel_rfl⟩
instance : Aggr Try.prog 59 4 := Aggr.mk' Try.underlying59 rfl inferInstance
instance : Places Try.prog 59 [(0, 1), (1, 1), (2, 1), (3, 1)] := ⟨_, Try.underlying59, ⟨rfl, infSize (t := 53), rfl, infSize (t := 3), rfl, infSize (t := 4), rfl, infSize (t := 3), trivial⟩⟩
instance : FieldOff Try.prog 59 0 0 := FieldOff.mk' (ft := 53) Try.underlying59 rfl rfl rfl inferInstance (by decide)
instance : FieldOff Try.prog 59 1 1 := FieldOff.mk' (ft := 3) Try.underlying59 rfl rfl rfl inferInstance (by decide)
instance : FieldOff Try.prog 59 2 2 := FieldOff.mk' (ft := 4) Try.underlying59 rfl rfl rfl inferInstance (by decide)
instance : FieldOff Try.prog 59 3 3 := FieldOff.mk' (ft := 3) Try.underlying59 rfl rfl rfl inferInstance (by decide)
instance : Inf Try.prog 60 4 32 (.agg #[.pointer none, .int .i64 0, .bool false, .int .i64 0]) := ⟨by kernel_rfl⟩
instance : Aggr Try.prog 60 4 := Aggr.mk' Try.underlying60 rfl inferInstance
instance : Places Try.prog 60 [(0, 1), (1, 1), (2, 1), (3, 1)] := ⟨_, Try.underlying60, ⟨rfl, infSize (t := 53), rfl, infSize (t := 3), rfl, infSize (t := 4), rfl, infSize (t := 3), trivial⟩⟩
instance : FieldOff Try.prog 60 0 0 := FieldOff.mk' (ft := 53) Try.underlying60 rfl rfl rfl inferInstance (by decide)
instance : FieldOff Try.prog 60 1 1 := FieldOff.mk' (ft := 3) Try.underlying60 rfl rfl rfl inferInstance (by decide)
instance : FieldOff Try.prog 60 2 2 := FieldOff.mk' (ft := 4) Try.underlying60 rfl rfl rfl inferInstance (by decide)
instance : FieldOff Try.prog 60 3 3 := FieldOff.mk' (ft := 3) Try.underlying60 rfl rfl rfl inferInstance (by decide)
instance : Inf Try.prog 61 1 8 (.nilFunc) := ⟨by kernel_rfl⟩
instance : Und Try.prog 61 (.func #[4] #[] false) := ⟨Try.underlying61⟩
instance : Scal Try.prog 61 := Scal.mk' Try.underlying61 rfl inferInstance
instance : Inf Try.prog 62 1 24 (.slice none 0 0) := ⟨by kernel_rfl⟩
instance : Und Try.prog 62 (.slice 207) := ⟨Try.underlying62⟩
instance : Scal Try.prog 62 := Scal.mk' Try.underlying62 rfl inferInstance
instance : Inf Try.prog 63 1 24 (.slice none 0 0) := ⟨by kernel_rfl⟩
instance : Und Try.prog 63 (.slice 4) := ⟨Try.underlying63⟩
instance : Scal Try.prog 63 := Scal.mk' Try.underlying63 rfl inferInstance
instance : Inf Try.prog 64 1 24 (.slice none 0 0) := ⟨by kernel_rfl⟩
instance : Und Try.prog 64 (.slice 2) := ⟨Try.underlying64⟩
instance : Scal Try.prog 64 := Scal.mk' Try.underlying64 rfl inferInstance
instance : Inf Try.prog 65 13 264 (.agg #[.int .i8 0, .int .i64 0, .slice none 0 0, .slice none 0 0, .slice none 0 0, .slice none 0 0, .slice none 0 0, .bool false, .slice none 0 0, .slice none 0 0, .slice none 0 0, .slice none 0 0, .slice none 0 0]) := ⟨by kernel_rfl⟩
instance : Aggr Try.prog 65 13 := Aggr.mk' Try.underlying65 rfl inferInstance
instance : Places Try.prog 65 [(0, 7), (7, 1), (8, 1), (9, 1), (10, 1), (11, 1), (12, 1)] := ⟨_, Try.underlying65, ⟨rfl, infSize (t := 49), rfl, infSize (t := 4), rfl, infSize (t := 62), rfl, infSize (t := 63), rfl, infSize (t := 64), rfl, infSize (t := 62), rfl, infSize (t := 64), trivial⟩⟩
instance : FieldOff Try.prog 65 0 0 := FieldOff.mk' (ft := 49) Try.underlying65 rfl rfl rfl inferInstance (by decide)
instance : FieldOff Try.prog 65 1 7 := FieldOff.mk' (ft := 4) Try.underlying65 rfl rfl rfl inferInstance (by decide)
instance : FieldOff Try.prog 65 2 8 := FieldOff.mk' (ft := 62) Try.underlying65 rfl rfl rfl inferInstance (by decide)
instance : FieldOff Try.prog 65 3 9 := FieldOff.mk' (ft := 63) Try.underlying65 rfl rfl rfl inferInstance (by decide)
instance : FieldOff Try.prog 65 4 10 := FieldOff.mk' (ft := 64) Try.underlying65 rfl rfl rfl inferInstance (by decide)
instance : FieldOff Try.prog 65 5 11 := FieldOff.mk' (ft := 62) Try.underlying65 rfl rfl rfl inferInstance (by decide)
instance : FieldOff Try.prog 65 6 12 := FieldOff.mk' (ft := 64) Try.underlying65 rfl rfl rfl inferInstance (by decide)
instance : Inf Try.prog 66 13 264 (.agg #[.int .i8 0, .int .i64 0, .slice none 0 0, .slice none 0 0, .slice none 0 0, .slice none 0 0, .slice none 0 0, .bool false, .slice none 0 0, .slice none 0 0, .slice none 0 0, .slice none 0 0, .slice none 0 0]) := ⟨by kernel_rfl⟩
instance : Aggr Try.prog 66 13 := Aggr.mk' Try.underlying66 rfl inferInstance
instance : Places Try.prog 66 [(0, 7), (7, 1), (8, 1), (9, 1), (10, 1), (11, 1), (12, 1)] := ⟨_, Try.underlying66, ⟨rfl, infSize (t := 49), rfl, infSize (t := 4), rfl, infSize (t := 62), rfl, infSize (t := 63), rfl, infSize (t := 64), rfl, infSize (t := 62), rfl, infSize (t := 64), trivial⟩⟩
instance : FieldOff Try.prog 66 0 0 := FieldOff.mk' (ft := 49) Try.underlying66 rfl rfl rfl inferInstance (by decide)
instance : FieldOff Try.prog 66 1 7 := FieldOff.mk' (ft := 4) Try.underlying66 rfl rfl rfl inferInstance (by decide)
instance : FieldOff Try.prog 66 2 8 := FieldOff.mk' (ft := 62) Try.underlying66 rfl rfl rfl inferInstance (by decide)
instance : FieldOff Try.prog 66 3 9 := FieldOff.mk' (ft := 63) Try.underlying66 rfl rfl rfl inferInstance (by decide)
instance : FieldOff Try.prog 66 4 10 := FieldOff.mk' (ft := 64) Try.underlying66 rfl rfl rfl inferInstance (by decide)
instance : FieldOff Try.prog 66 5 11 := FieldOff.mk' (ft := 62) Try.underlying66 rfl rfl rfl inferInstance (by decide)
instance : FieldOff Try.prog 66 6 12 := FieldOff.mk' (ft := 64) Try.underlying66 rfl rfl rfl inferInstance (by decide)
instance : Inf Try.prog 67 1 8 (.nilFunc) := ⟨by kernel_rfl⟩
instance : Und Try.prog 67 (.func #[27] #[4] false) := ⟨Try.underlying67⟩
instance : Scal Try.prog 67 := Scal.mk' Try.underlying67 rfl inferInstance
instance : Inf Try.prog 68 1 0 (.tuple #[.pointer none, .int .i64 0]) := ⟨by kernel_rfl⟩
instance : Inf Try.prog 69 1 8 (.nilFunc) := ⟨by kernel_rfl⟩
instance : Und Try.prog 69 (.func #[3] #[41, 34] false) := ⟨Try.underlying69⟩
instance : Scal Try.prog 69 := Scal.mk' Try.underlying69 rfl inferInstance
instance : Inf Try.prog 70 1 8 (.map none) := ⟨by kernel_rfl⟩
instance : Und Try.prog 70 (.map 2 2) := ⟨Try.underlying70⟩
instance : Scal Try.prog 70 := Scal.mk' Try.underlying70 rfl inferInstance
instance : Inf Try.prog 71 1 8 (.nilFunc) := ⟨by kernel_rfl⟩
instance : Und Try.prog 71 (.func #[32, 2] #[34] false) := ⟨Try.underlying71⟩
instance : Scal Try.prog 71 := Scal.mk' Try.underlying71 rfl inferInstance
instance : Inf Try.prog 72 1 0 (.tuple #[.int .i64 0, .bool false]) := ⟨by kernel_rfl⟩
instance : Inf Try.prog 73 1 8 (.nilFunc) := ⟨by kernel_rfl⟩
instance : Und Try.prog 73 (.func #[32] #[2, 4] false) := ⟨Try.underlying73⟩
instance : Scal Try.prog 73 := Scal.mk' Try.underlying73 rfl inferInstance
instance : Inf Try.prog 74 8 64 (.agg #[.int .i64 0, .int .i8 0, .int .i64 0, .int .i64 0, .int .i64 0, .int .i64 0, .int .i64 0, .bool false]) := ⟨by kernel_rfl⟩
instance : Aggr Try.prog 74 8 := Aggr.mk' Try.underlying74 rfl inferInstance
instance : Places Try.prog 74 [(0, 1), (1, 1), (2, 1), (3, 1), (4, 1), (5, 1), (6, 1), (7, 1)] := ⟨_, Try.underlying74, ⟨rfl, infSize (t := 3), rfl, infSize (t := 46), rfl, infSize (t := 3), rfl, infSize (t := 2), rfl, infSize (t := 2), rfl, infSize (t := 2), rfl, infSize (t := 2), rfl, infSize (t := 4), trivial⟩⟩
instance : FieldOff Try.prog 74 0 0 := FieldOff.mk' (ft := 3) Try.underlying74 rfl rfl rfl inferInstance (by decide)
instance : FieldOff Try.prog 74 1 1 := FieldOff.mk' (ft := 46) Try.underlying74 rfl rfl rfl inferInstance (by decide)
instance : FieldOff Try.prog 74 2 2 := FieldOff.mk' (ft := 3) Try.underlying74 rfl rfl rfl inferInstance (by decide)
instance : FieldOff Try.prog 74 3 3 := FieldOff.mk' (ft := 2) Try.underlying74 rfl rfl rfl inferInstance (by decide)
instance : FieldOff Try.prog 74 4 4 := FieldOff.mk' (ft := 2) Try.underlying74 rfl rfl rfl inferInstance (by decide)
instance : FieldOff Try.prog 74 5 5 := FieldOff.mk' (ft := 2) Try.underlying74 rfl rfl rfl inferInstance (by decide)
instance : FieldOff Try.prog 74 6 6 := FieldOff.mk' (ft := 2) Try.underlying74 rfl rfl rfl inferInstance (by decide)
instance : FieldOff Try.prog 74 7 7 := FieldOff.mk' (ft := 4) Try.underlying74 rfl rfl rfl inferInstance (by decide)
instance : Inf Try.prog 75 8 64 (.agg #[.int .i64 0, .int .i8 0, .int .i64 0, .int .i64 0, .int .i64 0, .int .i64 0, .int .i64 0, .bool false]) := ⟨by kernel_rfl⟩
instance : Aggr Try.prog 75 8 := Aggr.mk' Try.underlying75 rfl inferInstance
instance : Places Try.prog 75 [(0, 1), (1, 1), (2, 1), (3, 1), (4, 1), (5, 1), (6, 1), (7, 1)] := ⟨_, Try.underlying75, ⟨rfl, infSize (t := 3), rfl, infSize (t := 46), rfl, infSize (t := 3), rfl, infSize (t := 2), rfl, infSize (t := 2), rfl, infSize (t := 2), rfl, infSize (t := 2), rfl, infSize (t := 4), trivial⟩⟩
instance : FieldOff Try.prog 75 0 0 := FieldOff.mk' (ft := 3) Try.underlying75 rfl rfl rfl inferInstance (by decide)
instance : FieldOff Try.prog 75 1 1 := FieldOff.mk' (ft := 46) Try.underlying75 rfl rfl rfl inferInstance (by decide)
instance : FieldOff Try.prog 75 2 2 := FieldOff.mk' (ft := 3) Try.underlying75 rfl rfl rfl inferInstance (by decide)
instance : FieldOff Try.prog 75 3 3 := FieldOff.mk' (ft := 2) Try.underlying75 rfl rfl rfl inferInstance (by decide)
instance : FieldOff Try.prog 75 4 4 := FieldOff.mk' (ft := 2) Try.underlying75 rfl rfl rfl inferInstance (by decide)
instance : FieldOff Try.prog 75 5 5 := FieldOff.mk' (ft := 2) Try.underlying75 rfl rfl rfl inferInstance (by decide)
instance : FieldOff Try.prog 75 6 6 := FieldOff.mk' (ft := 2) Try.underlying75 rfl rfl rfl inferInstance (by decide)
instance : FieldOff Try.prog 75 7 7 := FieldOff.mk' (ft := 4) Try.underlying75 rfl rfl rfl inferInstance (by decide)
instance : Inf Try.prog 76 1 8 (.pointer none) := ⟨by kernel_rfl⟩
instance : Und Try.prog 76 (.pointer 273) := ⟨Try.underlying76⟩
instance : Scal Try.prog 76 := Scal.mk' Try.underlying76 rfl inferInstance
instance : Inf Try.prog 77 1 24 (.slice none 0 0) := ⟨by kernel_rfl⟩
instance : Und Try.prog 77 (.slice 221) := ⟨Try.underlying77⟩
instance : Scal Try.prog 77 := Scal.mk' Try.underlying77 rfl inferInstance
instance : Inf Try.prog 78 3 40 (.agg #[.pointer none, .pointer none, .slice none 0 0]) := ⟨by kernel_rfl⟩
instance : Aggr Try.prog 78 3 := Aggr.mk' Try.underlying78 rfl inferInstance
instance : Places Try.prog 78 [(0, 1), (1, 1), (2, 1)] := ⟨_, Try.underlying78, ⟨rfl, infSize (t := 76), rfl, infSize (t := 76), rfl, infSize (t := 77), trivial⟩⟩
instance : FieldOff Try.prog 78 0 0 := FieldOff.mk' (ft := 76) Try.underlying78 rfl rfl rfl inferInstance (by decide)
instance : FieldOff Try.prog 78 1 1 := FieldOff.mk' (ft := 76) Try.underlying78 rfl rfl rfl inferInstance (by decide)
instance : FieldOff Try.prog 78 2 2 := FieldOff.mk' (ft := 77) Try.underlying78 rfl rfl rfl inferInstance (by decide)
instance : Inf Try.prog 79 3 40 (.agg #[.pointer none, .pointer none, .slice none 0 0]) := ⟨by kernel_rfl⟩
instance : Aggr Try.prog 79 3 := Aggr.mk' Try.underlying79 rfl inferInstance
instance : Places Try.prog 79 [(0, 1), (1, 1), (2, 1)] := ⟨_, Try.underlying79, ⟨rfl, infSize (t := 76), rfl, infSize (t := 76), rfl, infSize (t := 77), trivial⟩⟩
instance : FieldOff Try.prog 79 0 0 := FieldOff.mk' (ft := 76) Try.underlying79 rfl rfl rfl inferInstance (by decide)
instance : FieldOff Try.prog 79 1 1 := FieldOff.mk' (ft := 76) Try.underlying79 rfl rfl rfl inferInstance (by decide)
instance : FieldOff Try.prog 79 2 2 := FieldOff.mk' (ft := 77) Try.underlying79 rfl rfl rfl inferInstance (by decide)
instance : Inf Try.prog 80 1 8 (.nilFunc) := ⟨by kernel_rfl⟩
instance : Und Try.prog 80 (.func #[3, 2] #[4] false) := ⟨Try.underlying80⟩
instance : Scal Try.prog 80 := Scal.mk' Try.underlying80 rfl inferInstance
instance : Inf Try.prog 81 3 24 (.agg #[.int .i64 0, .int .i64 0, .int .i64 0]) := ⟨by kernel_rfl⟩
instance : Aggr Try.prog 81 3 := Aggr.mk' Try.underlying81 rfl inferInstance
instance : Places Try.prog 81 [(0, 1), (1, 1), (2, 1)] := ⟨_, Try.underlying81, ⟨rfl, infSize (t := 3), rfl, infSize (t := 2), rfl, infSize (t := 3), trivial⟩⟩
instance : FieldOff Try.prog 81 0 0 := FieldOff.mk' (ft := 3) Try.underlying81 rfl rfl rfl inferInstance (by decide)
instance : FieldOff Try.prog 81 1 1 := FieldOff.mk' (ft := 2) Try.underlying81 rfl rfl rfl inferInstance (by decide)
instance : FieldOff Try.prog 81 2 2 := FieldOff.mk' (ft := 3) Try.underlying81 rfl rfl rfl inferInstance (by decide)
instance : Inf Try.prog 82 3 24 (.agg #[.int .i64 0, .int .i64 0, .int .i64 0]) := ⟨by kernel_rfl⟩
instance : Aggr Try.prog 82 3 := Aggr.mk' Try.underlying82 rfl inferInstance
instance : Places Try.prog 82 [(0, 1), (1, 1), (2, 1)] := ⟨_, Try.underlying82, ⟨rfl, infSize (t := 3), rfl, infSize (t := 2), rfl, infSize (t := 3), trivial⟩⟩
instance : FieldOff Try.prog 82 0 0 := FieldOff.mk' (ft := 3) Try.underlying82 rfl rfl rfl inferInstance (by decide)
instance : FieldOff Try.prog 82 1 1 := FieldOff.mk' (ft := 2) Try.underlying82 rfl rfl rfl inferInstance (by decide)
instance : FieldOff Try.prog 82 2 2 := FieldOff.mk' (ft := 3) Try.underlying82 rfl rfl rfl inferInstance (by decide)
instance : Inf Try.prog 83 1 24 (.slice none 0 0) := ⟨by kernel_rfl⟩
instance : Und Try.prog 83 (.slice 88) := ⟨Try.underlying83⟩
instance : Scal Try.prog 83 := Scal.mk' Try.underlying83 rfl inferInstance
instance : Inf Try.prog 84 5 72 (.agg #[.int .i64 0, .int .i64 0, .int .i64 0, .slice none 0 0, .slice none 0 0]) := ⟨by kernel_rfl⟩
instance : Aggr Try.prog 84 5 := Aggr.mk' Try.underlying84 rfl inferInstance
instance : Places Try.prog 84 [(0, 3), (3, 1), (4, 1)] := ⟨_, Try.underlying84, ⟨rfl, infSize (t := 82), rfl, infSize (t := 83), rfl, infSize (t := 25), trivial⟩⟩
instance : FieldOff Try.prog 84 0 0 := FieldOff.mk' (ft := 82) Try.underlying84 rfl rfl rfl inferInstance (by decide)
instance : FieldOff Try.prog 84 1 3 := FieldOff.mk' (ft := 83) Try.underlying84 rfl rfl rfl inferInstance (by decide)
instance : FieldOff Try.prog 84 2 4 := FieldOff.mk' (ft := 25) Try.underlying84 rfl rfl rfl inferInstance (by decide)
instance : Inf Try.prog 85 5 72 (.agg #[.int .i64 0, .int .i64 0, .int .i64 0, .slice none 0 0, .slice none 0 0]) := ⟨by kernel_rfl⟩
instance : Aggr Try.prog 85 5 := Aggr.mk' Try.underlying85 rfl inferInstance
instance : Places Try.prog 85 [(0, 3), (3, 1), (4, 1)] := ⟨_, Try.underlying85, ⟨rfl, infSize (t := 82), rfl, infSize (t := 83), rfl, infSize (t := 25), trivial⟩⟩
instance : FieldOff Try.prog 85 0 0 := FieldOff.mk' (ft := 82) Try.underlying85 rfl rfl rfl inferInstance (by decide)
instance : FieldOff Try.prog 85 1 3 := FieldOff.mk' (ft := 83) Try.underlying85 rfl rfl rfl inferInstance (by decide)
instance : FieldOff Try.prog 85 2 4 := FieldOff.mk' (ft := 25) Try.underlying85 rfl rfl rfl inferInstance (by decide)
instance : Inf Try.prog 86 1 8 (.pointer none) := ⟨by kernel_rfl⟩
instance : Und Try.prog 86 (.pointer 97) := ⟨Try.underlying86⟩
instance : Scal Try.prog 86 := Scal.mk' Try.underlying86 rfl inferInstance
instance : Inf Try.prog 87 1 8 (.nilFunc) := ⟨by kernel_rfl⟩
instance : Und Try.prog 87 (.func #[85] #[86] false) := ⟨Try.underlying87⟩
instance : Scal Try.prog 87 := Scal.mk' Try.underlying87 rfl inferInstance
instance : Inf Try.prog 88 1 24 (.slice none 0 0) := ⟨by kernel_rfl⟩
instance : Und Try.prog 88 (.slice 92) := ⟨Try.underlying88⟩
instance : Scal Try.prog 88 := Scal.mk' Try.underlying88 rfl inferInstance
instance : Inf Try.prog 89 4 24 (.agg #[.int .i64 0, .bool false, .int .i8 0, .int .i64 0]) := ⟨by kernel_rfl⟩
instance : Aggr Try.prog 89 4 := Aggr.mk' Try.underlying89 rfl inferInstance
instance : Places Try.prog 89 [(0, 1), (1, 1), (2, 1), (3, 1)] := ⟨_, Try.underlying89, ⟨rfl, infSize (t := 2), rfl, infSize (t := 4), rfl, infSize (t := 46), rfl, infSize (t := 34), trivial⟩⟩
instance : FieldOff Try.prog 89 0 0 := FieldOff.mk' (ft := 2) Try.underlying89 rfl rfl rfl inferInstance (by decide)
instance : FieldOff Try.prog 89 1 1 := FieldOff.mk' (ft := 4) Try.underlying89 rfl rfl rfl inferInstance (by decide)
instance : FieldOff Try.prog 89 2 2 := FieldOff.mk' (ft := 46) Try.underlying89 rfl rfl rfl inferInstance (by decide)
instance : FieldOff Try.prog 89 3 3 := FieldOff.mk' (ft := 34) Try.underlying89 rfl rfl rfl inferInstance (by decide)
instance : Inf Try.prog 90 4 24 (.agg #[.int .i64 0, .bool false, .int .i8 0, .int .i64 0]) := ⟨by kernel_rfl⟩
instance : Aggr Try.prog 90 4 := Aggr.mk' Try.underlying90 rfl inferInstance
instance : Places Try.prog 90 [(0, 1), (1, 1), (2, 1), (3, 1)] := ⟨_, Try.underlying90, ⟨rfl, infSize (t := 2), rfl, infSize (t := 4), rfl, infSize (t := 46), rfl, infSize (t := 34), trivial⟩⟩
instance : FieldOff Try.prog 90 0 0 := FieldOff.mk' (ft := 2) Try.underlying90 rfl rfl rfl inferInstance (by decide)
instance : FieldOff Try.prog 90 1 1 := FieldOff.mk' (ft := 4) Try.underlying90 rfl rfl rfl inferInstance (by decide)
instance : FieldOff Try.prog 90 2 2 := FieldOff.mk' (ft := 46) Try.underlying90 rfl rfl rfl inferInstance (by decide)
instance : FieldOff Try.prog 90 3 3 := FieldOff.mk' (ft := 34) Try.underlying90 rfl rfl rfl inferInstance (by decide)
instance : Inf Try.prog 91 1 8 (.nilFunc) := ⟨by kernel_rfl⟩
instance : Und Try.prog 91 (.func #[32, 92] #[90] false) := ⟨Try.underlying91⟩
instance : Scal Try.prog 91 := Scal.mk' Try.underlying91 rfl inferInstance
instance : Inf Try.prog 92 2 16 (.agg #[.int .i64 0, .int .i64 0]) := ⟨by kernel_rfl⟩
instance : Aggr Try.prog 92 2 := Aggr.mk' Try.underlying92 rfl inferInstance
instance : Places Try.prog 92 [(0, 1), (1, 1)] := ⟨_, Try.underlying92, ⟨rfl, infSize (t := 3), rfl, infSize (t := 2), trivial⟩⟩
instance : EqI2 Try.prog 92 .i64 .i64 := ⟨by kernel_rfl, by kernel_rfl, _, _, Try.underlying92, by decide, by decide, rfl, rfl, Try.underlying3, Try.underlying2⟩
instance : FieldOff Try.prog 92 0 0 := FieldOff.mk' (ft := 3) Try.underlying92 rfl rfl rfl inferInstance (by decide)
instance : FieldOff Try.prog 92 1 1 := FieldOff.mk' (ft := 2) Try.underlying92 rfl rfl rfl inferInstance (by decide)
instance : Inf Try.prog 93 1 24 (.slice none 0 0) := ⟨by kernel_rfl⟩
instance : Und Try.prog 93 (.slice 90) := ⟨Try.underlying93⟩
instance : Scal Try.prog 93 := Scal.mk' Try.underlying93 rfl inferInstance
instance : Inf Try.prog 94 1 8 (.pointer none) := ⟨by kernel_rfl⟩
instance : Und Try.prog 94 (.pointer 113) := ⟨Try.underlying94⟩
instance : Scal Try.prog 94 := Scal.mk' Try.underlying94 rfl inferInstance
instance : Inf Try.prog 95 1 24 (.slice none 0 0) := ⟨by kernel_rfl⟩
instance : Und Try.prog 95 (.slice 93) := ⟨Try.underlying95⟩
instance : Scal Try.prog 95 := Scal.mk' Try.underlying95 rfl inferInstance
instance : Inf Try.prog 96 2 32 (.agg #[.pointer none, .slice none 0 0]) := ⟨by kernel_rfl⟩
instance : Aggr Try.prog 96 2 := Aggr.mk' Try.underlying96 rfl inferInstance
instance : Places Try.prog 96 [(0, 1), (1, 1)] := ⟨_, Try.underlying96, ⟨rfl, infSize (t := 94), rfl, infSize (t := 95), trivial⟩⟩
instance : FieldOff Try.prog 96 0 0 := FieldOff.mk' (ft := 94) Try.underlying96 rfl rfl rfl inferInstance (by decide)
instance : FieldOff Try.prog 96 1 1 := FieldOff.mk' (ft := 95) Try.underlying96 rfl rfl rfl inferInstance (by decide)
instance : Inf Try.prog 97 2 32 (.agg #[.pointer none, .slice none 0 0]) := ⟨by kernel_rfl⟩
instance : Aggr Try.prog 97 2 := Aggr.mk' Try.underlying97 rfl inferInstance
instance : Places Try.prog 97 [(0, 1), (1, 1)] := ⟨_, Try.underlying97, ⟨rfl, infSize (t := 94), rfl, infSize (t := 95), trivial⟩⟩
instance : FieldOff Try.prog 97 0 0 := FieldOff.mk' (ft := 94) Try.underlying97 rfl rfl rfl inferInstance (by decide)
instance : FieldOff Try.prog 97 1 1 := FieldOff.mk' (ft := 95) Try.underlying97 rfl rfl rfl inferInstance (by decide)
instance : Inf Try.prog 98 1 8 (.nilFunc) := ⟨by kernel_rfl⟩
instance : Und Try.prog 98 (.func #[53, 82] #[] false) := ⟨Try.underlying98⟩
instance : Scal Try.prog 98 := Scal.mk' Try.underlying98 rfl inferInstance
instance : Inf Try.prog 99 1 8 (.nilFunc) := ⟨by kernel_rfl⟩
instance : Und Try.prog 99 (.func #[56, 82, 92] #[90] false) := ⟨Try.underlying99⟩
instance : Scal Try.prog 99 := Scal.mk' Try.underlying99 rfl inferInstance
instance : Inf Try.prog 100 1 8 (.nilFunc) := ⟨by kernel_rfl⟩
instance : Und Try.prog 100 (.func #[85] #[4] false) := ⟨Try.underlying100⟩
instance : Scal Try.prog 100 := Scal.mk' Try.underlying100 rfl inferInstance
instance : Inf Try.prog 101 1 24 (.slice none 0 0) := ⟨by kernel_rfl⟩
instance : Und Try.prog 101 (.slice 5) := ⟨Try.underlying101⟩
instance : Scal Try.prog 101 := Scal.mk' Try.underlying101 rfl inferInstance
instance : Inf Try.prog 102 6 96 (.agg #[.int .i64 0, .int .i64 0, .int .i64 0, .slice none 0 0, .slice none 0 0, .slice none 0 0]) := ⟨by kernel_rfl⟩
instance : Aggr Try.prog 102 6 := Aggr.mk' Try.underlying102 rfl inferInstance
instance : Places Try.prog 102 [(0, 3), (3, 1), (4, 1), (5, 1)] := ⟨_, Try.underlying102, ⟨rfl, infSize (t := 82), rfl, infSize (t := 63), rfl, infSize (t := 101), rfl, infSize (t := 25), trivial⟩⟩
instance : FieldOff Try.prog 102 0 0 := FieldOff.mk' (ft := 82) Try.underlying102 rfl rfl rfl inferInstance (by decide)
instance : FieldOff Try.prog 102 1 3 := FieldOff.mk' (ft := 63) Try.underlying102 rfl rfl rfl inferInstance (by decide)
instance : FieldOff Try.prog 102 2 4 := FieldOff.mk' (ft := 101) Try.underlying102 rfl rfl rfl inferInstance (by decide)
instance : FieldOff Try.prog 102 3 5 := FieldOff.mk' (ft := 25) Try.underlying102 rfl rfl rfl inferInstance (by decide)
instance : Inf Try.prog 103 6 96 (.agg #[.int .i64 0, .int .i64 0, .int .i64 0, .slice none 0 0, .slice none 0 0, .slice none 0 0]) := ⟨by kernel_rfl⟩
instance : Aggr Try.prog 103 6 := Aggr.mk' Try.underlying103 rfl inferInstance
instance : Places Try.prog 103 [(0, 3), (3, 1), (4, 1), (5, 1)] := ⟨_, Try.underlying103, ⟨rfl, infSize (t := 82), rfl, infSize (t := 63), rfl, infSize (t := 101), rfl, infSize (t := 25), trivial⟩⟩
instance : FieldOff Try.prog 103 0 0 := FieldOff.mk' (ft := 82) Try.underlying103 rfl rfl rfl inferInstance (by decide)
instance : FieldOff Try.prog 103 1 3 := FieldOff.mk' (ft := 63) Try.underlying103 rfl rfl rfl inferInstance (by decide)
instance : FieldOff Try.prog 103 2 4 := FieldOff.mk' (ft := 101) Try.underlying103 rfl rfl rfl inferInstance (by decide)
instance : FieldOff Try.prog 103 3 5 := FieldOff.mk' (ft := 25) Try.underlying103 rfl rfl rfl inferInstance (by decide)
instance : Inf Try.prog 104 1 0 (.tuple #[.pointer none, .int .i64 0]) := ⟨by kernel_rfl⟩
instance : Inf Try.prog 105 1 8 (.nilFunc) := ⟨by kernel_rfl⟩
instance : Und Try.prog 105 (.func #[3, 2] #[94, 34] false) := ⟨Try.underlying105⟩
instance : Scal Try.prog 105 := Scal.mk' Try.underlying105 rfl inferInstance
instance : Inf Try.prog 106 1 8 (.nilFunc) := ⟨by kernel_rfl⟩
instance : Und Try.prog 106 (.func #[2] #[] false) := ⟨Try.underlying106⟩
instance : Scal Try.prog 106 := Scal.mk' Try.underlying106 rfl inferInstance
instance : Inf Try.prog 107 1 0 (.tuple #[.int .i64 0, .int .i8 0]) := ⟨by kernel_rfl⟩
instance : Inf Try.prog 108 1 8 (.nilFunc) := ⟨by kernel_rfl⟩
instance : Und Try.prog 108 (.func #[32] #[2, 46] false) := ⟨Try.underlying108⟩
instance : Scal Try.prog 108 := Scal.mk' Try.underlying108 rfl inferInstance
instance : Inf Try.prog 109 1 8 (.nilFunc) := ⟨by kernel_rfl⟩
instance : Und Try.prog 109 (.func #[32] #[2] false) := ⟨Try.underlying109⟩
instance : Scal Try.prog 109 := Scal.mk' Try.underlying109 rfl inferInstance
instance : Inf Try.prog 110 1 8 (.nilFunc) := ⟨by kernel_rfl⟩
instance : Und Try.prog 110 (.func #[103] #[4] false) := ⟨Try.underlying110⟩
instance : Scal Try.prog 110 := Scal.mk' Try.underlying110 rfl inferInstance
instance : Inf Try.prog 111 1 24 (.slice none 0 0) := ⟨by kernel_rfl⟩
instance : Und Try.prog 111 (.slice 76) := ⟨Try.underlying111⟩
instance : Scal Try.prog 111 := Scal.mk' Try.underlying111 rfl inferInstance
instance : Inf Try.prog 112 3 40 (.agg #[.pointer none, .pointer none, .slice none 0 0]) := ⟨by kernel_rfl⟩
instance : Aggr Try.prog 112 3 := Aggr.mk' Try.underlying112 rfl inferInstance
instance : Places Try.prog 112 [(0, 1), (1, 1), (2, 1)] := ⟨_, Try.underlying112, ⟨rfl, infSize (t := 76), rfl, infSize (t := 76), rfl, infSize (t := 111), trivial⟩⟩
instance : FieldOff Try.prog 112 0 0 := FieldOff.mk' (ft := 76) Try.underlying112 rfl rfl rfl inferInstance (by decide)
instance : FieldOff Try.prog 112 1 1 := FieldOff.mk' (ft := 76) Try.underlying112 rfl rfl rfl inferInstance (by decide)
instance : FieldOff Try.prog 112 2 2 := FieldOff.mk' (ft := 111) Try.underlying112 rfl rfl rfl inferInstance (by decide)
instance : Inf Try.prog 113 3 40 (.agg #[.pointer none, .pointer none, .slice none 0 0]) := ⟨by kernel_rfl⟩
instance : Aggr Try.prog 113 3 := Aggr.mk' Try.underlying113 rfl inferInstance
instance : Places Try.prog 113 [(0, 1), (1, 1), (2, 1)] := ⟨_, Try.underlying113, ⟨rfl, infSize (t := 76), rfl, infSize (t := 76), rfl, infSize (t := 111), trivial⟩⟩
instance : FieldOff Try.prog 113 0 0 := FieldOff.mk' (ft := 76) Try.underlying113 rfl rfl rfl inferInstance (by decide)
instance : FieldOff Try.prog 113 1 1 := FieldOff.mk' (ft := 76) Try.underlying113 rfl rfl rfl inferInstance (by decide)
instance : FieldOff Try.prog 113 2 2 := FieldOff.mk' (ft := 111) Try.underlying113 rfl rfl rfl inferInstance (by decide)
instance : Inf Try.prog 114 1 8 (.nilFunc) := ⟨by kernel_rfl⟩
instance : Und Try.prog 114 (.func #[3, 2, 2] #[4] false) := ⟨Try.underlying114⟩
instance : Scal Try.prog 114 := Scal.mk' Try.underlying114 rfl inferInstance
instance : Inf Try.prog 115 3 24 (.agg #[.int .i64 0, .int .i64 0, .int .i64 0]) := ⟨by kernel_rfl⟩
instance : Aggr Try.prog 115 3 := Aggr.mk' Try.underlying115 rfl inferInstance
instance : Places Try.prog 115 [(0, 1), (1, 1), (2, 1)] := ⟨_, Try.underlying115, ⟨rfl, infSize (t := 3), rfl, infSize (t := 2), rfl, infSize (t := 2), trivial⟩⟩
instance : FieldOff Try.prog 115 0 0 := FieldOff.mk' (ft := 3) Try.underlying115 rfl rfl rfl inferInstance (by decide)
instance : FieldOff Try.prog 115 1 1 := FieldOff.mk' (ft := 2) Try.underlying115 rfl rfl rfl inferInstance (by decide)
instance : FieldOff Try.prog 115 2 2 := FieldOff.mk' (ft := 2) Try.underlying115 rfl rfl rfl inferInstance (by decide)
instance : Inf Try.prog 116 3 24 (.agg #[.int .i64 0, .int .i64 0, .int .i64 0]) := ⟨by kernel_rfl⟩
instance : Aggr Try.prog 116 3 := Aggr.mk' Try.underlying116 rfl inferInstance
instance : Places Try.prog 116 [(0, 1), (1, 1), (2, 1)] := ⟨_, Try.underlying116, ⟨rfl, infSize (t := 3), rfl, infSize (t := 2), rfl, infSize (t := 2), trivial⟩⟩
instance : FieldOff Try.prog 116 0 0 := FieldOff.mk' (ft := 3) Try.underlying116 rfl rfl rfl inferInstance (by decide)
instance : FieldOff Try.prog 116 1 1 := FieldOff.mk' (ft := 2) Try.underlying116 rfl rfl rfl inferInstance (by decide)
instance : FieldOff Try.prog 116 2 2 := FieldOff.mk' (ft := 2) Try.underlying116 rfl rfl rfl inferInstance (by decide)
instance : Inf Try.prog 117 1 24 (.slice none 0 0) := ⟨by kernel_rfl⟩
instance : Und Try.prog 117 (.slice 124) := ⟨Try.underlying117⟩
instance : Scal Try.prog 117 := Scal.mk' Try.underlying117 rfl inferInstance
instance : Inf Try.prog 118 5 72 (.agg #[.int .i64 0, .int .i64 0, .int .i64 0, .slice none 0 0, .slice none 0 0]) := ⟨by kernel_rfl⟩
instance : Aggr Try.prog 118 5 := Aggr.mk' Try.underlying118 rfl inferInstance
instance : Places Try.prog 118 [(0, 3), (3, 1), (4, 1)] := ⟨_, Try.underlying118, ⟨rfl, infSize (t := 116), rfl, infSize (t := 117), rfl, infSize (t := 25), trivial⟩⟩
instance : FieldOff Try.prog 118 0 0 := FieldOff.mk' (ft := 116) Try.underlying118 rfl rfl rfl inferInstance (by decide)
instance : FieldOff Try.prog 118 1 3 := FieldOff.mk' (ft := 117) Try.underlying118 rfl rfl rfl inferInstance (by decide)
instance : FieldOff Try.prog 118 2 4 := FieldOff.mk' (ft := 25) Try.underlying118 rfl rfl rfl inferInstance (by decide)
instance : Inf Try.prog 119 5 72 (.agg #[.int .i64 0, .int .i64 0, .int .i64 0, .slice none 0 0, .slice none 0 0]) := ⟨by kernel_rfl⟩
instance : Aggr Try.prog 119 5 := Aggr.mk' Try.underlying119 rfl inferInstance
instance : Places Try.prog 119 [(0, 3), (3, 1), (4, 1)] := ⟨_, Try.underlying119, ⟨rfl, infSize (t := 116), rfl, infSize (t := 117), rfl, infSize (t := 25), trivial⟩⟩
instance : FieldOff Try.prog 119 0 0 := FieldOff.mk' (ft := 116) Try.underlying119 rfl rfl rfl inferInstance (by decide)
instance : FieldOff Try.prog 119 1 3 := FieldOff.mk' (ft := 117) Try.underlying119 rfl rfl rfl inferInstance (by decide)
instance : FieldOff Try.prog 119 2 4 := FieldOff.mk' (ft := 25) Try.underlying119 rfl rfl rfl inferInstance (by decide)
instance : Inf Try.prog 120 1 8 (.pointer none) := ⟨by kernel_rfl⟩
instance : Und Try.prog 120 (.pointer 135) := ⟨Try.underlying120⟩
instance : Scal Try.prog 120 := Scal.mk' Try.underlying120 rfl inferInstance
instance : Inf Try.prog 121 1 8 (.nilFunc) := ⟨by kernel_rfl⟩
instance : Und Try.prog 121 (.func #[119] #[120] false) := ⟨Try.underlying121⟩
instance : Scal Try.prog 121 := Scal.mk' Try.underlying121 rfl inferInstance
instance : Inf Try.prog 122 1 8 (.nilFunc) := ⟨by kernel_rfl⟩
instance : Und Try.prog 122 (.func #[119] #[49] false) := ⟨Try.underlying122⟩
instance : Scal Try.prog 122 := Scal.mk' Try.underlying122 rfl inferInstance
instance : Inf Try.prog 123 1 8 (.nilFunc) := ⟨by kernel_rfl⟩
instance : Und Try.prog 123 (.func #[53, 116] #[] false) := ⟨Try.underlying123⟩
instance : Scal Try.prog 123 := Scal.mk' Try.underlying123 rfl inferInstance
instance : Inf Try.prog 124 1 24 (.slice none 0 0) := ⟨by kernel_rfl⟩
instance : Und Try.prog 124 (.slice 128) := ⟨Try.underlying124⟩
instance : Scal Try.prog 124 := Scal.mk' Try.underlying124 rfl inferInstance
instance : Inf Try.prog 125 3 24 (.agg #[.int .i64 0, .bool false, .int .i64 0]) := ⟨by kernel_rfl⟩
instance : Aggr Try.prog 125 3 := Aggr.mk' Try.underlying125 rfl inferInstance
instance : Places Try.prog 125 [(0, 1), (1, 1), (2, 1)] := ⟨_, Try.underlying125, ⟨rfl, infSize (t := 2), rfl, infSize (t := 4), rfl, infSize (t := 34), trivial⟩⟩
instance : FieldOff Try.prog 125 0 0 := FieldOff.mk' (ft := 2) Try.underlying125 rfl rfl rfl inferInstance (by decide)
instance : FieldOff Try.prog 125 1 1 := FieldOff.mk' (ft := 4) Try.underlying125 rfl rfl rfl inferInstance (by decide)
instance : FieldOff Try.prog 125 2 2 := FieldOff.mk' (ft := 34) Try.underlying125 rfl rfl rfl inferInstance (by decide)
instance : Inf Try.prog 126 1 8 (.nilFunc) := ⟨by kernel_rfl⟩
instance : Und Try.prog 126 (.func #[56, 116, 128] #[125] false) := ⟨Try.underlying126⟩
instance : Scal Try.prog 126 := Scal.mk' Try.underlying126 rfl inferInstance
instance : Inf Try.prog 127 3 24 (.agg #[.int .i64 0, .int .i64 0, .int .i64 0]) := ⟨by kernel_rfl⟩
instance : Aggr Try.prog 127 3 := Aggr.mk' Try.underlying127 rfl inferInstance
instance : Places Try.prog 127 [(0, 1), (1, 1), (2, 1)] := ⟨_, Try.underlying127, ⟨rfl, infSize (t := 3), rfl, infSize (t := 3), rfl, infSize (t := 2), trivial⟩⟩
instance : FieldOff Try.prog 127 0 0 := FieldOff.mk' (ft := 3) Try.underlying127 rfl rfl rfl inferInstance (by decide)
instance : FieldOff Try.prog 127 1 1 := FieldOff.mk' (ft := 3) Try.underlying127 rfl rfl rfl inferInstance (by decide)
instance : FieldOff Try.prog 127 2 2 := FieldOff.mk' (ft := 2) Try.underlying127 rfl rfl rfl inferInstance (by decide)
instance : Inf Try.prog 128 3 24 (.agg #[.int .i64 0, .int .i64 0, .int .i64 0]) := ⟨by kernel_rfl⟩
instance : Aggr Try.prog 128 3 := Aggr.mk' Try.underlying128 rfl inferInstance
instance : Places Try.prog 128 [(0, 1), (1, 1), (2, 1)] := ⟨_, Try.underlying128, ⟨rfl, infSize (t := 3), rfl, infSize (t := 3), rfl, infSize (t := 2), trivial⟩⟩
instance : FieldOff Try.prog 128 0 0 := FieldOff.mk' (ft := 3) Try.underlying128 rfl rfl rfl inferInstance (by decide)
instance : FieldOff Try.prog 128 1 1 := FieldOff.mk' (ft := 3) Try.underlying128 rfl rfl rfl inferInstance (by decide)
instance : FieldOff Try.prog 128 2 2 := FieldOff.mk' (ft := 2) Try.underlying128 rfl rfl rfl inferInstance (by decide)
instance : Inf Try.prog 129 1 24 (.slice none 0 0) := ⟨by kernel_rfl⟩
instance : Und Try.prog 129 (.slice 125) := ⟨Try.underlying129⟩
instance : Scal Try.prog 129 := Scal.mk' Try.underlying129 rfl inferInstance
instance : Inf Try.prog 130 1 8 (.pointer none) := ⟨by kernel_rfl⟩
instance : Und Try.prog 130 (.pointer 143) := ⟨Try.underlying130⟩
instance : Scal Try.prog 130 := Scal.mk' Try.underlying130 rfl inferInstance
instance : Inf Try.prog 131 1 8 (.pointer none) := ⟨by kernel_rfl⟩
instance : Und Try.prog 131 (.pointer 146) := ⟨Try.underlying131⟩
instance : Scal Try.prog 131 := Scal.mk' Try.underlying131 rfl inferInstance
instance : Inf Try.prog 132 1 8 (.pointer none) := ⟨by kernel_rfl⟩
instance : Und Try.prog 132 (.pointer 149) := ⟨Try.underlying132⟩
instance : Scal Try.prog 132 := Scal.mk' Try.underlying132 rfl inferInstance
instance : Inf Try.prog 133 1 24 (.slice none 0 0) := ⟨by kernel_rfl⟩
instance : Und Try.prog 133 (.slice 129) := ⟨Try.underlying133⟩
instance : Scal Try.prog 133 := Scal.mk' Try.underlying133 rfl inferInstance
instance : Inf Try.prog 134 8 80 (.agg #[.pointer none, .pointer none, .pointer none, .slice none 0 0, .int .i64 0, .int .i64 0, .int .i64 0, .bool false]) := ⟨by kernel_rfl⟩
instance : Aggr Try.prog 134 8 := Aggr.mk' Try.underlying134 rfl inferInstance
instance : Places Try.prog 134 [(0, 1), (1, 1), (2, 1), (3, 1), (4, 1), (5, 1), (6, 1), (7, 1)] := ⟨_, Try.underlying134, ⟨rfl, infSize (t := 130), rfl, infSize (t := 131), rfl, infSize (t := 132), rfl, infSize (t := 133), rfl, infSize (t := 2), rfl, infSize (t := 2), rfl, infSize (t := 2), rfl, infSize (t := 4), trivial⟩⟩
instance : FieldOff Try.prog 134 0 0 := FieldOff.mk' (ft := 130) Try.underlying134 rfl rfl rfl inferInstance (by decide)
instance : FieldOff Try.prog 134 1 1 := FieldOff.mk' (ft := 131) Try.underlying134 rfl rfl rfl inferInstance (by decide)
instance : FieldOff Try.prog 134 2 2 := FieldOff.mk' (ft := 132) Try.underlying134 rfl rfl rfl inferInstance (by decide)
instance : FieldOff Try.prog 134 3 3 := FieldOff.mk' (ft := 133) Try.underlying134 rfl rfl rfl inferInstance (by decide)
instance : FieldOff Try.prog 134 4 4 := FieldOff.mk' (ft := 2) Try.underlying134 rfl rfl rfl inferInstance (by decide)
instance : FieldOff Try.prog 134 5 5 := FieldOff.mk' (ft := 2) Try.underlying134 rfl rfl rfl inferInstance (by decide)
instance : FieldOff Try.prog 134 6 6 := FieldOff.mk' (ft := 2) Try.underlying134 rfl rfl rfl inferInstance (by decide)
instance : FieldOff Try.prog 134 7 7 := FieldOff.mk' (ft := 4) Try.underlying134 rfl rfl rfl inferInstance (by decide)
instance : Inf Try.prog 135 8 80 (.agg #[.pointer none, .pointer none, .pointer none, .slice none 0 0, .int .i64 0, .int .i64 0, .int .i64 0, .bool false]) := ⟨by kernel_rfl⟩
instance : Aggr Try.prog 135 8 := Aggr.mk' Try.underlying135 rfl inferInstance
instance : Places Try.prog 135 [(0, 1), (1, 1), (2, 1), (3, 1), (4, 1), (5, 1), (6, 1), (7, 1)] := ⟨_, Try.underlying135, ⟨rfl, infSize (t := 130), rfl, infSize (t := 131), rfl, infSize (t := 132), rfl, infSize (t := 133), rfl, infSize (t := 2), rfl, infSize (t := 2), rfl, infSize (t := 2), rfl, infSize (t := 4), trivial⟩⟩
instance : FieldOff Try.prog 135 0 0 := FieldOff.mk' (ft := 130) Try.underlying135 rfl rfl rfl inferInstance (by decide)
instance : FieldOff Try.prog 135 1 1 := FieldOff.mk' (ft := 131) Try.underlying135 rfl rfl rfl inferInstance (by decide)
instance : FieldOff Try.prog 135 2 2 := FieldOff.mk' (ft := 132) Try.underlying135 rfl rfl rfl inferInstance (by decide)
instance : FieldOff Try.prog 135 3 3 := FieldOff.mk' (ft := 133) Try.underlying135 rfl rfl rfl inferInstance (by decide)
instance : FieldOff Try.prog 135 4 4 := FieldOff.mk' (ft := 2) Try.underlying135 rfl rfl rfl inferInstance (by decide)
instance : FieldOff Try.prog 135 5 5 := FieldOff.mk' (ft := 2) Try.underlying135 rfl rfl rfl inferInstance (by decide)
instance : FieldOff Try.prog 135 6 6 := FieldOff.mk' (ft := 2) Try.underlying135 rfl rfl rfl inferInstance (by decide)
instance : FieldOff Try.prog 135 7 7 := FieldOff.mk' (ft := 4) Try.underlying135 rfl rfl rfl inferInstance (by decide)
instance : Inf Try.prog 136 1 8 (.nilFunc) := ⟨by kernel_rfl⟩
instance : Und Try.prog 136 (.func #[119] #[4] false) := ⟨Try.underlying136⟩
instance : Scal Try.prog 136 := Scal.mk' Try.underlying136 rfl inferInstance
instance : Inf Try.prog 137 1 0 (.tuple #[.pointer none, .int .i64 0]) := ⟨by kernel_rfl⟩
instance : Inf Try.prog 138 1 8 (.nilFunc) := ⟨by kernel_rfl⟩
instance : Und Try.prog 138 (.func #[3] #[130, 34] false) := ⟨Try.underlying138⟩
instance : Scal Try.prog 138 := Scal.mk' Try.underlying138 rfl inferInstance
instance : Inf Try.prog 139 1 0 (.tuple #[.pointer none, .int .i64 0]) := ⟨by kernel_rfl⟩
instance : Inf Try.prog 140 1 8 (.nilFunc) := ⟨by kernel_rfl⟩
instance : Und Try.prog 140 (.func #[2] #[132, 34] false) := ⟨Try.underlying140⟩
instance : Scal Try.prog 140 := Scal.mk' Try.underlying140 rfl inferInstance
instance : Inf Try.prog 141 1 8 (.nilFunc) := ⟨by kernel_rfl⟩
instance : Und Try.prog 141 (.func #[32, 3, 2] #[34] false) := ⟨Try.underlying141⟩
instance : Scal Try.prog 141 := Scal.mk' Try.underlying141 rfl inferInstance
instance : Inf Try.prog 142 1 24 (.agg #[.slice none 0 0]) := ⟨by kernel_rfl⟩
instance : Aggr Try.prog 142 1 := Aggr.mk' Try.underlying142 rfl inferInstance
instance : Places Try.prog 142 [(0, 1)] := ⟨_, Try.underlying142, ⟨rfl, infSize (t := 111), trivial⟩⟩
instance : FieldOff Try.prog 142 0 0 := FieldOff.mk' (ft := 111) Try.underlying142 rfl rfl rfl inferInstance (by decide)
instance : Inf Try.prog 143 1 24 (.agg #[.slice none 0 0]) := ⟨by kernel_rfl⟩
instance : Aggr Try.prog 143 1 := Aggr.mk' Try.underlying143 rfl inferInstance
instance : Places Try.prog 143 [(0, 1)] := ⟨_, Try.underlying143, ⟨rfl, infSize (t := 111), trivial⟩⟩
instance : FieldOff Try.prog 143 0 0 := FieldOff.mk' (ft := 111) Try.underlying143 rfl rfl rfl inferInstance (by decide)
instance : Inf Try.prog 144 1 8 (.nilFunc) := ⟨by kernel_rfl⟩
instance : Und Try.prog 144 (.func #[32, 2] #[4] false) := ⟨Try.underlying144⟩
instance : Scal Try.prog 144 := Scal.mk' Try.underlying144 rfl inferInstance
instance : Inf Try.prog 145 1 8 (.agg #[.pointer none]) := ⟨by kernel_rfl⟩
instance : Aggr Try.prog 145 1 := Aggr.mk' Try.underlying145 rfl inferInstance
instance : Places Try.prog 145 [(0, 1)] := ⟨_, Try.underlying145, ⟨rfl, infSize (t := 76), trivial⟩⟩
instance : FieldOff Try.prog 145 0 0 := FieldOff.mk' (ft := 76) Try.underlying145 rfl rfl rfl inferInstance (by decide)
instance : Inf Try.prog 146 1 8 (.agg #[.pointer none]) := ⟨by kernel_rfl⟩
instance : Aggr Try.prog 146 1 := Aggr.mk' Try.underlying146 rfl inferInstance
instance : Places Try.prog 146 [(0, 1)] := ⟨_, Try.underlying146, ⟨rfl, infSize (t := 76), trivial⟩⟩
instance : FieldOff Try.prog 146 0 0 := FieldOff.mk' (ft := 76) Try.underlying146 rfl rfl rfl inferInstance (by decide)
instance : Inf Try.prog 147 1 8 (.nilFunc) := ⟨by kernel_rfl⟩
instance : Und Try.prog 147 (.func #[32] #[4] false) := ⟨Try.underlying147⟩
instance : Scal Try.prog 147 := Scal.mk' Try.underlying147 rfl inferInstance
instance : Inf Try.prog 148 2 16 (.agg #[.int .i64 0, .pointer none]) := ⟨by kernel_rfl⟩
instance : Aggr Try.prog 148 2 := Aggr.mk' Try.underlying148 rfl inferInstance
instance : Places Try.prog 148 [(0, 1), (1, 1)] := ⟨_, Try.underlying148, ⟨rfl, infSize (t := 2), rfl, infSize (t := 76), trivial⟩⟩
instance : FieldOff Try.prog 148 0 0 := FieldOff.mk' (ft := 2) Try.underlying148 rfl rfl rfl inferInstance (by decide)
instance : FieldOff Try.prog 148 1 1 := FieldOff.mk' (ft := 76) Try.underlying148 rfl rfl rfl inferInstance (by decide)
instance : Inf Try.prog 149 2 16 (.agg #[.int .i64 0, .pointer none]) := ⟨by kernel_rfl⟩
instance : Aggr Try.prog 149 2 := Aggr.mk' Try.underlying149 rfl inferInstance
instance : Places Try.prog 149 [(0, 1), (1, 1)] := ⟨_, Try.underlying149, ⟨rfl, infSize (t := 2), rfl, infSize (t := 76), trivial⟩⟩
instance : FieldOff Try.prog 149 0 0 := FieldOff.mk' (ft := 2) Try.underlying149 rfl rfl rfl inferInstance (by decide)
instance : FieldOff Try.prog 149 1 1 := FieldOff.mk' (ft := 76) Try.underlying149 rfl rfl rfl inferInstance (by decide)
instance : Inf Try.prog 150 1 8 (.nilFunc) := ⟨by kernel_rfl⟩
instance : Und Try.prog 150 (.func #[32] #[34] false) := ⟨Try.underlying150⟩
instance : Scal Try.prog 150 := Scal.mk' Try.underlying150 rfl inferInstance
instance : Inf Try.prog 151 2 16 (.agg #[.int .i64 0, .int .i64 0]) := ⟨by kernel_rfl⟩
instance : Aggr Try.prog 151 2 := Aggr.mk' Try.underlying151 rfl inferInstance
instance : Places Try.prog 151 [(0, 1), (1, 1)] := ⟨_, Try.underlying151, ⟨rfl, infSize (t := 3), rfl, infSize (t := 3), trivial⟩⟩
instance : EqI2 Try.prog 151 .i64 .i64 := ⟨by kernel_rfl, by kernel_rfl, _, _, Try.underlying151, by decide, by decide, rfl, rfl, Try.underlying3, Try.underlying3⟩
instance : FieldOff Try.prog 151 0 0 := FieldOff.mk' (ft := 3) Try.underlying151 rfl rfl rfl inferInstance (by decide)
instance : FieldOff Try.prog 151 1 1 := FieldOff.mk' (ft := 3) Try.underlying151 rfl rfl rfl inferInstance (by decide)
instance : Inf Try.prog 152 2 16 (.agg #[.int .i64 0, .int .i64 0]) := ⟨by kernel_rfl⟩
instance : Aggr Try.prog 152 2 := Aggr.mk' Try.underlying152 rfl inferInstance
instance : Places Try.prog 152 [(0, 1), (1, 1)] := ⟨_, Try.underlying152, ⟨rfl, infSize (t := 3), rfl, infSize (t := 3), trivial⟩⟩
instance : EqI2 Try.prog 152 .i64 .i64 := ⟨by kernel_rfl, by kernel_rfl, _, _, Try.underlying152, by decide, by decide, rfl, rfl, Try.underlying3, Try.underlying3⟩
instance : FieldOff Try.prog 152 0 0 := FieldOff.mk' (ft := 3) Try.underlying152 rfl rfl rfl inferInstance (by decide)
instance : FieldOff Try.prog 152 1 1 := FieldOff.mk' (ft := 3) Try.underlying152 rfl rfl rfl inferInstance (by decide)
instance : Inf Try.prog 153 1 24 (.slice none 0 0) := ⟨by kernel_rfl⟩
instance : Und Try.prog 153 (.slice 158) := ⟨Try.underlying153⟩
instance : Scal Try.prog 153 := Scal.mk' Try.underlying153 rfl inferInstance
instance : Inf Try.prog 154 4 64 (.agg #[.int .i64 0, .int .i64 0, .slice none 0 0, .slice none 0 0]) := ⟨by kernel_rfl⟩
instance : Aggr Try.prog 154 4 := Aggr.mk' Try.underlying154 rfl inferInstance
instance : Places Try.prog 154 [(0, 2), (2, 1), (3, 1)] := ⟨_, Try.underlying154, ⟨rfl, infSize (t := 152), rfl, infSize (t := 153), rfl, infSize (t := 25), trivial⟩⟩
instance : FieldOff Try.prog 154 0 0 := FieldOff.mk' (ft := 152) Try.underlying154 rfl rfl rfl inferInstance (by decide)
instance : FieldOff Try.prog 154 1 2 := FieldOff.mk' (ft := 153) Try.underlying154 rfl rfl rfl inferInstance (by decide)
instance : FieldOff Try.prog 154 2 3 := FieldOff.mk' (ft := 25) Try.underlying154 rfl rfl rfl inferInstance (by decide)
instance : Inf Try.prog 155 4 64 (.agg #[.int .i64 0, .int .i64 0, .slice none 0 0, .slice none 0 0]) := ⟨by kernel_rfl⟩
instance : Aggr Try.prog 155 4 := Aggr.mk' Try.underlying155 rfl inferInstance
instance : Places Try.prog 155 [(0, 2), (2, 1), (3, 1)] := ⟨_, Try.underlying155, ⟨rfl, infSize (t := 152), rfl, infSize (t := 153), rfl, infSize (t := 25), trivial⟩⟩
instance : FieldOff Try.prog 155 0 0 := FieldOff.mk' (ft := 152) Try.underlying155 rfl rfl rfl inferInstance (by decide)
instance : FieldOff Try.prog 155 1 2 := FieldOff.mk' (ft := 153) Try.underlying155 rfl rfl rfl inferInstance (by decide)
instance : FieldOff Try.prog 155 2 3 := FieldOff.mk' (ft := 25) Try.underlying155 rfl rfl rfl inferInstance (by decide)
instance : Inf Try.prog 156 1 8 (.pointer none) := ⟨by kernel_rfl⟩
instance : Und Try.prog 156 (.pointer 168) := ⟨Try.underlying156⟩
instance : Scal Try.prog 156 := Scal.mk' Try.underlying156 rfl inferInstance
instance : Inf Try.prog 157 1 8 (.nilFunc) := ⟨by kernel_rfl⟩
instance : Und Try.prog 157 (.func #[155] #[156] false) := ⟨Try.underlying157⟩
instance : Scal Try.prog 157 := Scal.mk' Try.underlying157 rfl inferInstance
instance : Inf Try.prog 158 1 24 (.slice none 0 0) := ⟨by kernel_rfl⟩
instance : Und Try.prog 158 (.slice 163) := ⟨Try.underlying158⟩
instance : Scal Try.prog 158 := Scal.mk' Try.underlying158 rfl inferInstance
instance : Inf Try.prog 159 4 32 (.agg #[.int .i64 0, .int .i64 0, .bool false, .int .i64 0]) := ⟨by kernel_rfl⟩
instance : Aggr Try.prog 159 4 := Aggr.mk' Try.underlying159 rfl inferInstance
instance : Places Try.prog 159 [(0, 1), (1, 1), (2, 1), (3, 1)] := ⟨_, Try.underlying159, ⟨rfl, infSize (t := 2), rfl, infSize (t := 3), rfl, infSize (t := 4), rfl, infSize (t := 34), trivial⟩⟩
instance : FieldOff Try.prog 159 0 0 := FieldOff.mk' (ft := 2) Try.underlying159 rfl rfl rfl inferInstance (by decide)
instance : FieldOff Try.prog 159 1 1 := FieldOff.mk' (ft := 3) Try.underlying159 rfl rfl rfl inferInstance (by decide)
instance : FieldOff Try.prog 159 2 2 := FieldOff.mk' (ft := 4) Try.underlying159 rfl rfl rfl inferInstance (by decide)
instance : FieldOff Try.prog 159 3 3 := FieldOff.mk' (ft := 34) Try.underlying159 rfl rfl rfl inferInstance (by decide)
instance : Inf Try.prog 160 4 32 (.agg #[.int .i64 0, .int .i64 0, .bool false, .int .i64 0]) := ⟨by kernel_rfl⟩
instance : Aggr Try.prog 160 4 := Aggr.mk' Try.underlying160 rfl inferInstance
instance : Places Try.prog 160 [(0, 1), (1, 1), (2, 1), (3, 1)] := ⟨_, Try.underlying160, ⟨rfl, infSize (t := 2), rfl, infSize (t := 3), rfl, infSize (t := 4), rfl, infSize (t := 34), trivial⟩⟩
instance : FieldOff Try.prog 160 0 0 := FieldOff.mk' (ft := 2) Try.underlying160 rfl rfl rfl inferInstance (by decide)
instance : FieldOff Try.prog 160 1 1 := FieldOff.mk' (ft := 3) Try.underlying160 rfl rfl rfl inferInstance (by decide)
instance : FieldOff Try.prog 160 2 2 := FieldOff.mk' (ft := 4) Try.underlying160 rfl rfl rfl inferInstance (by decide)
instance : FieldOff Try.prog 160 3 3 := FieldOff.mk' (ft := 34) Try.underlying160 rfl rfl rfl inferInstance (by decide)
instance : Inf Try.prog 161 1 8 (.nilFunc) := ⟨by kernel_rfl⟩
instance : Und Try.prog 161 (.func #[32, 163] #[160] false) := ⟨Try.underlying161⟩
instance : Scal Try.prog 161 := Scal.mk' Try.underlying161 rfl inferInstance
instance : Inf Try.prog 162 3 24 (.agg #[.int .i64 0, .int .i64 0, .int .i64 0]) := ⟨by kernel_rfl⟩
instance : Aggr Try.prog 162 3 := Aggr.mk' Try.underlying162 rfl inferInstance
instance : Places Try.prog 162 [(0, 1), (1, 1), (2, 1)] := ⟨_, Try.underlying162, ⟨rfl, infSize (t := 3), rfl, infSize (t := 3), rfl, infSize (t := 2), trivial⟩⟩
instance : FieldOff Try.prog 162 0 0 := FieldOff.mk' (ft := 3) Try.underlying162 rfl rfl rfl inferInstance (by decide)
instance : FieldOff Try.prog 162 1 1 := FieldOff.mk' (ft := 3) Try.underlying162 rfl rfl rfl inferInstance (by decide)
instance : FieldOff Try.prog 162 2 2 := FieldOff.mk' (ft := 2) Try.underlying162 rfl rfl rfl inferInstance (by decide)
instance : Inf Try.prog 163 3 24 (.agg #[.int .i64 0, .int .i64 0, .int .i64 0]) := ⟨by kernel_rfl⟩
instance : Aggr Try.prog 163 3 := Aggr.mk' Try.underlying163 rfl inferInstance
instance : Places Try.prog 163 [(0, 1), (1, 1), (2, 1)] := ⟨_, Try.underlying163, ⟨rfl, infSize (t := 3), rfl, infSize (t := 3), rfl, infSize (t := 2), trivial⟩⟩
instance : FieldOff Try.prog 163 0 0 := FieldOff.mk' (ft := 3) Try.underlying163 rfl rfl rfl inferInstance (by decide)
instance : FieldOff Try.prog 163 1 1 := FieldOff.mk' (ft := 3) Try.underlying163 rfl rfl rfl inferInstance (by decide)
instance : FieldOff Try.prog 163 2 2 := FieldOff.mk' (ft := 2) Try.underlying163 rfl rfl rfl inferInstance (by decide)
instance : Inf Try.prog 164 1 24 (.slice none 0 0) := ⟨by kernel_rfl⟩
instance : Und Try.prog 164 (.slice 160) := ⟨Try.underlying164⟩
instance : Scal Try.prog 164 := Scal.mk' Try.underlying164 rfl inferInstance
instance : Inf Try.prog 165 1 8 (.pointer none) := ⟨by kernel_rfl⟩
instance : Und Try.prog 165 (.pointer 187) := ⟨Try.underlying165⟩
instance : Scal Try.prog 165 := Scal.mk' Try.underlying165 rfl inferInstance
instance : Inf Try.prog 166 1 24 (.slice none 0 0) := ⟨by kernel_rfl⟩
instance : Und Try.prog 166 (.slice 164) := ⟨Try.underlying166⟩
instance : Scal Try.prog 166 := Scal.mk' Try.underlying166 rfl inferInstance
instance : Inf Try.prog 167 2 32 (.agg #[.pointer none, .slice none 0 0]) := ⟨by kernel_rfl⟩
instance : Aggr Try.prog 167 2 := Aggr.mk' Try.underlying167 rfl inferInstance
instance : Places Try.prog 167 [(0, 1), (1, 1)] := ⟨_, Try.underlying167, ⟨rfl, infSize (t := 165), rfl, infSize (t := 166), trivial⟩⟩
instance : FieldOff Try.prog 167 0 0 := FieldOff.mk' (ft := 165) Try.underlying167 rfl rfl rfl inferInstance (by decide)
instance : FieldOff Try.prog 167 1 1 := FieldOff.mk' (ft := 166) Try.underlying167 rfl rfl rfl inferInstance (by decide)
instance : Inf Try.prog 168 2 32 (.agg #[.pointer none, .slice none 0 0]) := ⟨by kernel_rfl⟩
instance : Aggr Try.prog 168 2 := Aggr.mk' Try.underlying168 rfl inferInstance
instance : Places Try.prog 168 [(0, 1), (1, 1)] := ⟨_, Try.underlying168, ⟨rfl, infSize (t := 165), rfl, infSize (t := 166), trivial⟩⟩
instance : FieldOff Try.prog 168 0 0 := FieldOff.mk' (ft := 165) Try.underlying168 rfl rfl rfl inferInstance (by decide)
instance : FieldOff Try.prog 168 1 1 := FieldOff.mk' (ft := 166) Try.underlying168 rfl rfl rfl inferInstance (by decide)
instance : Inf Try.prog 169 1 8 (.nilFunc) := ⟨by kernel_rfl⟩
instance : Und Try.prog 169 (.func #[53, 152] #[] false) := ⟨Try.underlying169⟩
instance : Scal Try.prog 169 := Scal.mk' Try.underlying169 rfl inferInstance
instance : Inf Try.prog 170 1 8 (.nilFunc) := ⟨by kernel_rfl⟩
instance : Und Try.prog 170 (.func #[56, 152, 163] #[160] false) := ⟨Try.underlying170⟩
instance : Scal Try.prog 170 := Scal.mk' Try.underlying170 rfl inferInstance
instance : Inf Try.prog 171 1 8 (.nilFunc) := ⟨by kernel_rfl⟩
instance : Und Try.prog 171 (.func #[155] #[4] false) := ⟨Try.underlying171⟩
instance : Scal Try.prog 171 := Scal.mk' Try.underlying171 rfl inferInstance
instance : Inf Try.prog 172 5 72 (.agg #[.int .i64 0, .int .i64 0, .slice none 0 0, .int .i64 0, .slice none 0 0]) := ⟨by kernel_rfl⟩
instance : Aggr Try.prog 172 5 := Aggr.mk' Try.underlying172 rfl inferInstance
instance : Places Try.prog 172 [(0, 2), (2, 1), (3, 1), (4, 1)] := ⟨_, Try.underlying172, ⟨rfl, infSize (t := 152), rfl, infSize (t := 101), rfl, infSize (t := 3), rfl, infSize (t := 25), trivial⟩⟩
instance : FieldOff Try.prog 172 0 0 := FieldOff.mk' (ft := 152) Try.underlying172 rfl rfl rfl inferInstance (by decide)
instance : FieldOff Try.prog 172 1 2 := FieldOff.mk' (ft := 101) Try.underlying172 rfl rfl rfl inferInstance (by decide)
instance : FieldOff Try.prog 172 2 3 := FieldOff.mk' (ft := 3) Try.underlying172 rfl rfl rfl inferInstance (by decide)
instance : FieldOff Try.prog 172 3 4 := FieldOff.mk' (ft := 25) Try.underlying172 rfl rfl rfl inferInstance (by decide)
instance : Inf Try.prog 173 5 72 (.agg #[.int .i64 0, .int .i64 0, .slice none 0 0, .int .i64 0, .slice none 0 0]) := ⟨by kernel_rfl⟩
instance : Aggr Try.prog 173 5 := Aggr.mk' Try.underlying173 rfl inferInstance
instance : Places Try.prog 173 [(0, 2), (2, 1), (3, 1), (4, 1)] := ⟨_, Try.underlying173, ⟨rfl, infSize (t := 152), rfl, infSize (t := 101), rfl, infSize (t := 3), rfl, infSize (t := 25), trivial⟩⟩
instance : FieldOff Try.prog 173 0 0 := FieldOff.mk' (ft := 152) Try.underlying173 rfl rfl rfl inferInstance (by decide)
instance : FieldOff Try.prog 173 1 2 := FieldOff.mk' (ft := 101) Try.underlying173 rfl rfl rfl inferInstance (by decide)
instance : FieldOff Try.prog 173 2 3 := FieldOff.mk' (ft := 3) Try.underlying173 rfl rfl rfl inferInstance (by decide)
instance : FieldOff Try.prog 173 3 4 := FieldOff.mk' (ft := 25) Try.underlying173 rfl rfl rfl inferInstance (by decide)
instance : Inf Try.prog 174 1 0 (.tuple #[.pointer none, .int .i64 0]) := ⟨by kernel_rfl⟩
instance : Inf Try.prog 175 1 8 (.nilFunc) := ⟨by kernel_rfl⟩
instance : Und Try.prog 175 (.func #[3, 3] #[165, 34] false) := ⟨Try.underlying175⟩
instance : Scal Try.prog 175 := Scal.mk' Try.underlying175 rfl inferInstance
instance : Inf Try.prog 176 1 24 (.slice none 0 0) := ⟨by kernel_rfl⟩
instance : Und Try.prog 176 (.slice 181) := ⟨Try.underlying176⟩
instance : Scal Try.prog 176 := Scal.mk' Try.underlying176 rfl inferInstance
instance : Inf Try.prog 177 8 64 (.agg #[.int .i64 0, .int .i64 0, .int .i64 0, .int .i64 0, .int .i64 0, .int .i64 0, .int .i64 0, .int .i64 0]) := ⟨by kernel_rfl⟩
instance : Und Try.prog 177 (.array 8 2) := ⟨Try.underlying177⟩
instance : Aggr Try.prog 177 8 := Aggr.mk' Try.underlying177 rfl inferInstance
instance : Inf Try.prog 178 1 0 (.tuple #[.int .i64 0, .int .i64 0, .bool false]) := ⟨by kernel_rfl⟩
instance : Inf Try.prog 179 1 8 (.nilFunc) := ⟨by kernel_rfl⟩
instance : Und Try.prog 179 (.func #[32] #[2, 3, 4] false) := ⟨Try.underlying179⟩
instance : Scal Try.prog 179 := Scal.mk' Try.underlying179 rfl inferInstance
instance : Inf Try.prog 180 4 32 (.agg #[.int .i64 0, .int .i64 0, .int .i64 0, .bool false]) := ⟨by kernel_rfl⟩
instance : Aggr Try.prog 180 4 := Aggr.mk' Try.underlying180 rfl inferInstance
instance : Places Try.prog 180 [(0, 1), (1, 1), (2, 1), (3, 1)] := ⟨_, Try.underlying180, ⟨rfl, infSize (t := 3), rfl, infSize (t := 3), rfl, infSize (t := 3), rfl, infSize (t := 4), trivial⟩⟩
instance : FieldOff Try.prog 180 0 0 := FieldOff.mk' (ft := 3) Try.underlying180 rfl rfl rfl inferInstance (by decide)
instance : FieldOff Try.prog 180 1 1 := FieldOff.mk' (ft := 3) Try.underlying180 rfl rfl rfl inferInstance (by decide)
instance : FieldOff Try.prog 180 2 2 := FieldOff.mk' (ft := 3) Try.underlying180 rfl rfl rfl inferInstance (by decide)
instance : FieldOff Try.prog 180 3 3 := FieldOff.mk' (ft := 4) Try.underlying180 rfl rfl rfl inferInstance (by decide)
instance : Inf Try.prog 181 4 32 (.agg #[.int .i64 0, .int .i64 0, .int .i64 0, .bool false]) := ⟨by kernel_rfl⟩
instance : Aggr Try.prog 181 4 := Aggr.mk' Try.underlying181 rfl inferInstance
instance : Places Try.prog 181 [(0, 1), (1, 1), (2, 1), (3, 1)] := ⟨_, Try.underlying181, ⟨rfl, infSize (t := 3), rfl, infSize (t := 3), rfl, infSize (t := 3), rfl, infSize (t := 4), trivial⟩⟩
instance : FieldOff Try.prog 181 0 0 := FieldOff.mk' (ft := 3) Try.underlying181 rfl rfl rfl inferInstance (by decide)
instance : FieldOff Try.prog 181 1 1 := FieldOff.mk' (ft := 3) Try.underlying181 rfl rfl rfl inferInstance (by decide)
instance : FieldOff Try.prog 181 2 2 := FieldOff.mk' (ft := 3) Try.underlying181 rfl rfl rfl inferInstance (by decide)
instance : FieldOff Try.prog 181 3 3 := FieldOff.mk' (ft := 4) Try.underlying181 rfl rfl rfl inferInstance (by decide)
instance : Inf Try.prog 182 1 8 (.pointer none) := ⟨by kernel_rfl⟩
instance : Und Try.prog 182 (.pointer 181) := ⟨Try.underlying182⟩
instance : Scal Try.prog 182 := Scal.mk' Try.underlying182 rfl inferInstance
instance : Inf Try.prog 183 1 8 (.nilFunc) := ⟨by kernel_rfl⟩
instance : Und Try.prog 183 (.func #[3, 3] #[3] false) := ⟨Try.underlying183⟩
instance : Scal Try.prog 183 := Scal.mk' Try.underlying183 rfl inferInstance
instance : Inf Try.prog 184 1 8 (.nilFunc) := ⟨by kernel_rfl⟩
instance : Und Try.prog 184 (.func #[173] #[4] false) := ⟨Try.underlying184⟩
instance : Scal Try.prog 184 := Scal.mk' Try.underlying184 rfl inferInstance
instance : Inf Try.prog 185 1 24 (.slice none 0 0) := ⟨by kernel_rfl⟩
instance : Und Try.prog 185 (.slice 236) := ⟨Try.underlying185⟩
instance : Scal Try.prog 185 := Scal.mk' Try.underlying185 rfl inferInstance
instance : Inf Try.prog 186 2 32 (.agg #[.pointer none, .slice none 0 0]) := ⟨by kernel_rfl⟩
instance : Aggr Try.prog 186 2 := Aggr.mk' Try.underlying186 rfl inferInstance
instance : Places Try.prog 186 [(0, 1), (1, 1)] := ⟨_, Try.underlying186, ⟨rfl, infSize (t := 76), rfl, infSize (t := 185), trivial⟩⟩
instance : FieldOff Try.prog 186 0 0 := FieldOff.mk' (ft := 76) Try.underlying186 rfl rfl rfl inferInstance (by decide)
instance : FieldOff Try.prog 186 1 1 := FieldOff.mk' (ft := 185) Try.underlying186 rfl rfl rfl inferInstance (by decide)
instance : Inf Try.prog 187 2 32 (.agg #[.pointer none, .slice none 0 0]) := ⟨by kernel_rfl⟩
instance : Aggr Try.prog 187 2 := Aggr.mk' Try.underlying187 rfl inferInstance
instance : Places Try.prog 187 [(0, 1), (1, 1)] := ⟨_, Try.underlying187, ⟨rfl, infSize (t := 76), rfl, infSize (t := 185), trivial⟩⟩
instance : FieldOff Try.prog 187 0 0 := FieldOff.mk' (ft := 76) Try.underlying187 rfl rfl rfl inferInstance (by decide)
instance : FieldOff Try.prog 187 1 1 := FieldOff.mk' (ft := 185) Try.underlying187 rfl rfl rfl inferInstance (by decide)
instance : Inf Try.prog 188 1 8 (.nilFunc) := ⟨by kernel_rfl⟩
instance : Und Try.prog 188 (.func #[3, 3, 3, 2] #[4] false) := ⟨Try.underlying188⟩
instance : Scal Try.prog 188 := Scal.mk' Try.underlying188 rfl inferInstance
instance : Inf Try.prog 189 1 8 (.pointer none) := ⟨by kernel_rfl⟩
instance : Und Try.prog 189 (.pointer 193) := ⟨Try.underlying189⟩
instance : Scal Try.prog 189 := Scal.mk' Try.underlying189 rfl inferInstance
instance : Inf Try.prog 190 1 8 (.map none) := ⟨by kernel_rfl⟩
instance : Und Try.prog 190 (.map 197 3) := ⟨Try.underlying190⟩
instance : Scal Try.prog 190 := Scal.mk' Try.underlying190 rfl inferInstance
instance : Inf Try.prog 191 1 24 (.slice none 0 0) := ⟨by kernel_rfl⟩
instance : Und Try.prog 191 (.slice 32) := ⟨Try.underlying191⟩
instance : Scal Try.prog 191 := Scal.mk' Try.underlying191 rfl inferInstance
instance : Inf Try.prog 192 7 136 (.agg #[.slice none 0 0, .map none, .slice none 0 0, .slice none 0 0, .slice none 0 0, .slice none 0 0, .bool false]) := ⟨by kernel_rfl⟩
instance : Aggr Try.prog 192 7 := Aggr.mk' Try.underlying192 rfl inferInstance
instance : Places Try.prog 192 [(0, 1), (1, 1), (2, 1), (3, 1), (4, 1), (5, 1), (6, 1)] := ⟨_, Try.underlying192, ⟨rfl, infSize (t := 191), rfl, infSize (t := 190), rfl, infSize (t := 47), rfl, infSize (t := 25), rfl, infSize (t := 25), rfl, infSize (t := 63), rfl, infSize (t := 4), trivial⟩⟩
instance : FieldOff Try.prog 192 0 0 := FieldOff.mk' (ft := 191) Try.underlying192 rfl rfl rfl inferInstance (by decide)
instance : FieldOff Try.prog 192 1 1 := FieldOff.mk' (ft := 190) Try.underlying192 rfl rfl rfl inferInstance (by decide)
instance : FieldOff Try.prog 192 2 2 := FieldOff.mk' (ft := 47) Try.underlying192 rfl rfl rfl inferInstance (by decide)
instance : FieldOff Try.prog 192 3 3 := FieldOff.mk' (ft := 25) Try.underlying192 rfl rfl rfl inferInstance (by decide)
instance : FieldOff Try.prog 192 4 4 := FieldOff.mk' (ft := 25) Try.underlying192 rfl rfl rfl inferInstance (by decide)
instance : FieldOff Try.prog 192 5 5 := FieldOff.mk' (ft := 63) Try.underlying192 rfl rfl rfl inferInstance (by decide)
instance : FieldOff Try.prog 192 6 6 := FieldOff.mk' (ft := 4) Try.underlying192 rfl rfl rfl inferInstance (by decide)
instance : Inf Try.prog 193 7 136 (.agg #[.slice none 0 0, .map none, .slice none 0 0, .slice none 0 0, .slice none 0 0, .slice none 0 0, .bool false]) := ⟨by kernel_rfl⟩
instance : Aggr Try.prog 193 7 := Aggr.mk' Try.underlying193 rfl inferInstance
instance : Places Try.prog 193 [(0, 1), (1, 1), (2, 1), (3, 1), (4, 1), (5, 1), (6, 1)] := ⟨_, Try.underlying193, ⟨rfl, infSize (t := 191), rfl, infSize (t := 190), rfl, infSize (t := 47), rfl, infSize (t := 25), rfl, infSize (t := 25), rfl, infSize (t := 63), rfl, infSize (t := 4), trivial⟩⟩
instance : FieldOff Try.prog 193 0 0 := FieldOff.mk' (ft := 191) Try.underlying193 rfl rfl rfl inferInstance (by decide)
instance : FieldOff Try.prog 193 1 1 := FieldOff.mk' (ft := 190) Try.underlying193 rfl rfl rfl inferInstance (by decide)
instance : FieldOff Try.prog 193 2 2 := FieldOff.mk' (ft := 47) Try.underlying193 rfl rfl rfl inferInstance (by decide)
instance : FieldOff Try.prog 193 3 3 := FieldOff.mk' (ft := 25) Try.underlying193 rfl rfl rfl inferInstance (by decide)
instance : FieldOff Try.prog 193 4 4 := FieldOff.mk' (ft := 25) Try.underlying193 rfl rfl rfl inferInstance (by decide)
instance : FieldOff Try.prog 193 5 5 := FieldOff.mk' (ft := 63) Try.underlying193 rfl rfl rfl inferInstance (by decide)
instance : FieldOff Try.prog 193 6 6 := FieldOff.mk' (ft := 4) Try.underlying193 rfl rfl rfl inferInstance (by decide)
instance : Inf Try.prog 194 1 0 (.tuple #[.int .i8 0, .bool false]) := ⟨by kernel_rfl⟩
instance : Inf Try.prog 195 1 8 (.nilFunc) := ⟨by kernel_rfl⟩
instance : Und Try.prog 195 (.func #[3, 31, 200] #[46, 4] false) := ⟨Try.underlying195⟩
instance : Scal Try.prog 195 := Scal.mk' Try.underlying195 rfl inferInstance
instance : Inf Try.prog 196 1 8 (.chan none) := ⟨by kernel_rfl⟩
instance : Und Try.prog 196 (.chan .both 261) := ⟨Try.underlying196⟩
instance : Scal Try.prog 196 := Scal.mk' Try.underlying196 rfl inferInstance
instance : Inf Try.prog 197 1 8 (.pointer none) := ⟨by kernel_rfl⟩
instance : Und Try.prog 197 (.pointer 265) := ⟨Try.underlying197⟩
instance : Scal Try.prog 197 := Scal.mk' Try.underlying197 rfl inferInstance
instance : Inf Try.prog 198 14 112 (.agg #[.pointer none, .int .i64 0, .chan none, .chan none, .pointer none, .int .i64 0, .int .i8 0, .int .i64 0, .int .i64 0, .int .i64 0, .int .i64 0, .int .i64 0, .bool false, .bool false]) := ⟨by kernel_rfl⟩
instance : Aggr Try.prog 198 14 := Aggr.mk' Try.underlying198 rfl inferInstance
instance : Places Try.prog 198 [(0, 1), (1, 1), (2, 1), (3, 1), (4, 1), (5, 8), (13, 1)] := ⟨_, Try.underlying198, ⟨rfl, infSize (t := 189), rfl, infSize (t := 3), rfl, infSize (t := 196), rfl, infSize (t := 196), rfl, infSize (t := 197), rfl, infSize (t := 75), rfl, infSize (t := 4), trivial⟩⟩
instance : FieldOff Try.prog 198 0 0 := FieldOff.mk' (ft := 189) Try.underlying198 rfl rfl rfl inferInstance (by decide)
instance : FieldOff Try.prog 198 1 1 := FieldOff.mk' (ft := 3) Try.underlying198 rfl rfl rfl inferInstance (by decide)
instance : FieldOff Try.prog 198 2 2 := FieldOff.mk' (ft := 196) Try.underlying198 rfl rfl rfl inferInstance (by decide)
instance : FieldOff Try.prog 198 3 3 := FieldOff.mk' (ft := 196) Try.underlying198 rfl rfl rfl inferInstance (by decide)
instance : FieldOff Try.prog 198 4 4 := FieldOff.mk' (ft := 197) Try.underlying198 rfl rfl rfl inferInstance (by decide)
instance : FieldOff Try.prog 198 5 5 := FieldOff.mk' (ft := 75) Try.underlying198 rfl rfl rfl inferInstance (by decide)
instance : FieldOff Try.prog 198 6 13 := FieldOff.mk' (ft := 4) Try.underlying198 rfl rfl rfl inferInstance (by decide)
instance : Inf Try.prog 199 14 112 (.agg #[.pointer none, .int .i64 0, .chan none, .chan none, .pointer none, .int .i64 0, .int .i8 0, .int .i64 0, .int .i64 0, .int .i64 0, .int .i64 0, .int .i64 0, .bool false, .bool false]) := ⟨by kernel_rfl⟩
instance : Aggr Try.prog 199 14 := Aggr.mk' Try.underlying199 rfl inferInstance
instance : Places Try.prog 199 [(0, 1), (1, 1), (2, 1), (3, 1), (4, 1), (5, 8), (13, 1)] := ⟨_, Try.underlying199, ⟨rfl, infSize (t := 189), rfl, infSize (t := 3), rfl, infSize (t := 196), rfl, infSize (t := 196), rfl, infSize (t := 197), rfl, infSize (t := 75), rfl, infSize (t := 4), trivial⟩⟩
instance : FieldOff Try.prog 199 0 0 := FieldOff.mk' (ft := 189) Try.underlying199 rfl rfl rfl inferInstance (by decide)
instance : FieldOff Try.prog 199 1 1 := FieldOff.mk' (ft := 3) Try.underlying199 rfl rfl rfl inferInstance (by decide)
instance : FieldOff Try.prog 199 2 2 := FieldOff.mk' (ft := 196) Try.underlying199 rfl rfl rfl inferInstance (by decide)
instance : FieldOff Try.prog 199 3 3 := FieldOff.mk' (ft := 196) Try.underlying199 rfl rfl rfl inferInstance (by decide)
instance : FieldOff Try.prog 199 4 4 := FieldOff.mk' (ft := 197) Try.underlying199 rfl rfl rfl inferInstance (by decide)
instance : FieldOff Try.prog 199 5 5 := FieldOff.mk' (ft := 75) Try.underlying199 rfl rfl rfl inferInstance (by decide)
instance : FieldOff Try.prog 199 6 13 := FieldOff.mk' (ft := 4) Try.underlying199 rfl rfl rfl inferInstance (by decide)
instance : Inf Try.prog 200 1 8 (.nilFunc) := ⟨by kernel_rfl⟩
instance : Und Try.prog 200 (.func #[3, 191] #[32] false) := ⟨Try.underlying200⟩
instance : Scal Try.prog 200 := Scal.mk' Try.underlying200 rfl inferInstance
instance : Inf Try.prog 201 1 8 (.nilFunc) := ⟨by kernel_rfl⟩
instance : Und Try.prog 201 (.func #[46] #[49] false) := ⟨Try.underlying201⟩
instance : Scal Try.prog 201 := Scal.mk' Try.underlying201 rfl inferInstance
instance : Inf Try.prog 202 1 8 (.pointer none) := ⟨by kernel_rfl⟩
instance : Und Try.prog 202 (.pointer 205) := ⟨Try.underlying202⟩
instance : Scal Try.prog 202 := Scal.mk' Try.underlying202 rfl inferInstance
instance : Inf Try.prog 203 1 8 (.nilFunc) := ⟨by kernel_rfl⟩
instance : Und Try.prog 203 (.func #[3] #[3] false) := ⟨Try.underlying203⟩
instance : Scal Try.prog 203 := Scal.mk' Try.underlying203 rfl inferInstance
instance : Inf Try.prog 204 12 224 (.agg #[.int .i8 0, .int .i64 0, .slice none 0 0, .slice none 0 0, .slice none 0 0, .slice none 0 0, .slice none 0 0, .slice none 0 0, .int .i64 0, .slice none 0 0, .slice none 0 0, .int .i64 0]) := ⟨by kernel_rfl⟩
instance : Aggr Try.prog 204 12 := Aggr.mk' Try.underlying204 rfl inferInstance
instance : Places Try.prog 204 [(0, 7), (7, 1), (8, 1), (9, 1), (10, 1), (11, 1)] := ⟨_, Try.underlying204, ⟨rfl, infSize (t := 49), rfl, infSize (t := 25), rfl, infSize (t := 3), rfl, infSize (t := 25), rfl, infSize (t := 64), rfl, infSize (t := 3), trivial⟩⟩
instance : FieldOff Try.prog 204 0 0 := FieldOff.mk' (ft := 49) Try.underlying204 rfl rfl rfl inferInstance (by decide)
instance : FieldOff Try.prog 204 1 7 := FieldOff.mk' (ft := 25) Try.underlying204 rfl rfl rfl inferInstance (by decide)
instance : FieldOff Try.prog 204 2 8 := FieldOff.mk' (ft := 3) Try.underlying204 rfl rfl rfl inferInstance (by decide)
instance : FieldOff Try.prog 204 3 9 := FieldOff.mk' (ft := 25) Try.underlying204 rfl rfl rfl inferInstance (by decide)
instance : FieldOff Try.prog 204 4 10 := FieldOff.mk' (ft := 64) Try.underlying204 rfl rfl rfl inferInstance (by decide)
instance : FieldOff Try.prog 204 5 11 := FieldOff.mk' (ft := 3) Try.underlying204 rfl rfl rfl inferInstance (by decide)
instance : Inf Try.prog 205 12 224 (.agg #[.int .i8 0, .int .i64 0, .slice none 0 0, .slice none 0 0, .slice none 0 0, .slice none 0 0, .slice none 0 0, .slice none 0 0, .int .i64 0, .slice none 0 0, .slice none 0 0, .int .i64 0]) := ⟨by kernel_rfl⟩
instance : Aggr Try.prog 205 12 := Aggr.mk' Try.underlying205 rfl inferInstance
instance : Places Try.prog 205 [(0, 7), (7, 1), (8, 1), (9, 1), (10, 1), (11, 1)] := ⟨_, Try.underlying205, ⟨rfl, infSize (t := 49), rfl, infSize (t := 25), rfl, infSize (t := 3), rfl, infSize (t := 25), rfl, infSize (t := 64), rfl, infSize (t := 3), trivial⟩⟩
instance : FieldOff Try.prog 205 0 0 := FieldOff.mk' (ft := 49) Try.underlying205 rfl rfl rfl inferInstance (by decide)
instance : FieldOff Try.prog 205 1 7 := FieldOff.mk' (ft := 25) Try.underlying205 rfl rfl rfl inferInstance (by decide)
instance : FieldOff Try.prog 205 2 8 := FieldOff.mk' (ft := 3) Try.underlying205 rfl rfl rfl inferInstance (by decide)
instance : FieldOff Try.prog 205 3 9 := FieldOff.mk' (ft := 25) Try.underlying205 rfl rfl rfl inferInstance (by decide)
instance : FieldOff Try.prog 205 4 10 := FieldOff.mk' (ft := 64) Try.underlying205 rfl rfl rfl inferInstance (by decide)
instance : FieldOff Try.prog 205 5 11 := FieldOff.mk' (ft := 3) Try.underlying205 rfl rfl rfl inferInstance (by decide)
instance : Inf Try.prog 206 2 16 (.agg #[.int .i64 0, .int .i64 0]) := ⟨by kernel_rfl⟩
instance : Aggr Try.prog 206 2 := Aggr.mk' Try.underlying206 rfl inferInstance
instance : Places Try.prog 206 [(0, 1), (1, 1)] := ⟨_, Try.underlying206, ⟨rfl, infSize (t := 3), rfl, infSize (t := 3), trivial⟩⟩
instance : EqI2 Try.prog 206 .i64 .i64 := ⟨by kernel_rfl, by kernel_rfl, _, _, Try.underlying206, by decide, by decide, rfl, rfl, Try.underlying3, Try.underlying3⟩
instance : FieldOff Try.prog 206 0 0 := FieldOff.mk' (ft := 3) Try.underlying206 rfl rfl rfl inferInstance (by decide)
instance : FieldOff Try.prog 206 1 1 := FieldOff.mk' (ft := 3) Try.underlying206 rfl rfl rfl inferInstance (by decide)
instance : Inf Try.prog 207 2 16 (.agg #[.int .i64 0, .int .i64 0]) := ⟨by kernel_rfl⟩
instance : Aggr Try.prog 207 2 := Aggr.mk' Try.underlying207 rfl inferInstance
instance : Places Try.prog 207 [(0, 1), (1, 1)] := ⟨_, Try.underlying207, ⟨rfl, infSize (t := 3), rfl, infSize (t := 3), trivial⟩⟩
instance : EqI2 Try.prog 207 .i64 .i64 := ⟨by kernel_rfl, by kernel_rfl, _, _, Try.underlying207, by decide, by decide, rfl, rfl, Try.underlying3, Try.underlying3⟩
instance : FieldOff Try.prog 207 0 0 := FieldOff.mk' (ft := 3) Try.underlying207 rfl rfl rfl inferInstance (by decide)
instance : FieldOff Try.prog 207 1 1 := FieldOff.mk' (ft := 3) Try.underlying207 rfl rfl rfl inferInstance (by decide)
instance : Inf Try.prog 208 1 8 (.nilFunc) := ⟨by kernel_rfl⟩
instance : Und Try.prog 208 (.func #[207, 2] #[] false) := ⟨Try.underlying208⟩
instance : Scal Try.prog 208 := Scal.mk' Try.underlying208 rfl inferInstance
instance : Inf Try.prog 209 1 8 (.nilFunc) := ⟨by kernel_rfl⟩
instance : Und Try.prog 209 (.func #[3] #[207] false) := ⟨Try.underlying209⟩
instance : Scal Try.prog 209 := Scal.mk' Try.underlying209 rfl inferInstance
instance : Inf Try.prog 210 1 8 (.nilFunc) := ⟨by kernel_rfl⟩
instance : Und Try.prog 210 (.func #[2] #[207] false) := ⟨Try.underlying210⟩
instance : Scal Try.prog 210 := Scal.mk' Try.underlying210 rfl inferInstance
instance : Inf Try.prog 211 1 8 (.nilFunc) := ⟨by kernel_rfl⟩
instance : Und Try.prog 211 (.func #[56, 3] #[2] false) := ⟨Try.underlying211⟩
instance : Scal Try.prog 211 := Scal.mk' Try.underlying211 rfl inferInstance
instance : Inf Try.prog 212 1 8 (.nilFunc) := ⟨by kernel_rfl⟩
instance : Und Try.prog 212 (.func #[56, 3, 2] #[] false) := ⟨Try.underlying212⟩
instance : Scal Try.prog 212 := Scal.mk' Try.underlying212 rfl inferInstance
instance : Inf Try.prog 213 1 8 (.nilFunc) := ⟨by kernel_rfl⟩
instance : Und Try.prog 213 (.func #[207] #[2] false) := ⟨Try.underlying213⟩
instance : Scal Try.prog 213 := Scal.mk' Try.underlying213 rfl inferInstance
instance : Inf Try.prog 214 1 0 (.tuple #[.agg #[.int .i64 0, .int .i8 0, .int .i64 0, .int .i64 0, .int .i64 0, .int .i64 0, .int .i64 0, .bool false], .bool false]) := ⟨by kernel_rfl⟩
instance : Inf Try.prog 215 1 8 (.nilFunc) := ⟨by kernel_rfl⟩
instance : Und Try.prog 215 (.func #[] #[75, 4] false) := ⟨Try.underlying215⟩
instance : Scal Try.prog 215 := Scal.mk' Try.underlying215 rfl inferInstance
instance : Inf Try.prog 216 1 8 (.nilFunc) := ⟨by kernel_rfl⟩
instance : Und Try.prog 216 (.func #[3] #[4] false) := ⟨Try.underlying216⟩
instance : Scal Try.prog 216 := Scal.mk' Try.underlying216 rfl inferInstance
instance : Inf Try.prog 217 1 8 (.nilFunc) := ⟨by kernel_rfl⟩
instance : Und Try.prog 217 (.func #[2] #[76] false) := ⟨Try.underlying217⟩
instance : Scal Try.prog 217 := Scal.mk' Try.underlying217 rfl inferInstance
instance : Inf Try.prog 218 1 8 (.agg #[.pointer none]) := ⟨by kernel_rfl⟩
instance : Aggr Try.prog 218 1 := Aggr.mk' Try.underlying218 rfl inferInstance
instance : Places Try.prog 218 [(0, 1)] := ⟨_, Try.underlying218, ⟨rfl, infSize (t := 76), trivial⟩⟩
instance : FieldOff Try.prog 218 0 0 := FieldOff.mk' (ft := 76) Try.underlying218 rfl rfl rfl inferInstance (by decide)
instance : Inf Try.prog 219 1 8 (.agg #[.pointer none]) := ⟨by kernel_rfl⟩
instance : Aggr Try.prog 219 1 := Aggr.mk' Try.underlying219 rfl inferInstance
instance : Places Try.prog 219 [(0, 1)] := ⟨_, Try.underlying219, ⟨rfl, infSize (t := 76), trivial⟩⟩
instance : FieldOff Try.prog 219 0 0 := FieldOff.mk' (ft := 76) Try.underlying219 rfl rfl rfl inferInstance (by decide)
instance : Inf Try.prog 220 2 16 (.agg #[.pointer none, .pointer none]) := ⟨by kernel_rfl⟩
instance : Aggr Try.prog 220 2 := Aggr.mk' Try.underlying220 rfl inferInstance
instance : Places Try.prog 220 [(0, 1), (1, 1)] := ⟨_, Try.underlying220, ⟨rfl, infSize (t := 76), rfl, infSize (t := 219), trivial⟩⟩
instance : FieldOff Try.prog 220 0 0 := FieldOff.mk' (ft := 76) Try.underlying220 rfl rfl rfl inferInstance (by decide)
instance : FieldOff Try.prog 220 1 1 := FieldOff.mk' (ft := 219) Try.underlying220 rfl rfl rfl inferInstance (by decide)
instance : Inf Try.prog 221 2 16 (.agg #[.pointer none, .pointer none]) := ⟨by kernel_rfl⟩
instance : Aggr Try.prog 221 2 := Aggr.mk' Try.underlying221 rfl inferInstance
instance : Places Try.prog 221 [(0, 1), (1, 1)] := ⟨_, Try.underlying221, ⟨rfl, infSize (t := 76), rfl, infSize (t := 219), trivial⟩⟩
instance : FieldOff Try.prog 221 0 0 := FieldOff.mk' (ft := 76) Try.underlying221 rfl rfl rfl inferInstance (by decide)
instance : FieldOff Try.prog 221 1 1 := FieldOff.mk' (ft := 219) Try.underlying221 rfl rfl rfl inferInstance (by decide)
instance : Inf Try.prog 222 1 8 (.nilFunc) := ⟨by kernel_rfl⟩
instance : Und Try.prog 222 (.func #[32, 76] #[2] false) := ⟨Try.underlying222⟩
instance : Scal Try.prog 222 := Scal.mk' Try.underlying222 rfl inferInstance
instance : Inf Try.prog 223 1 8 (.nilFunc) := ⟨by kernel_rfl⟩
instance : Und Try.prog 223 (.func #[32, 2] #[] false) := ⟨Try.underlying223⟩
instance : Scal Try.prog 223 := Scal.mk' Try.underlying223 rfl inferInstance
instance : Inf Try.prog 224 1 8 (.nilFunc) := ⟨by kernel_rfl⟩
instance : Und Try.prog 224 (.func #[32, 76, 2] #[] false) := ⟨Try.underlying224⟩
instance : Scal Try.prog 224 := Scal.mk' Try.underlying224 rfl inferInstance
instance : Inf Try.prog 225 1 8 (.nilFunc) := ⟨by kernel_rfl⟩
instance : Und Try.prog 225 (.func #[] #[207] false) := ⟨Try.underlying225⟩
instance : Scal Try.prog 225 := Scal.mk' Try.underlying225 rfl inferInstance
instance : Inf Try.prog 226 1 8 (.nilFunc) := ⟨by kernel_rfl⟩
instance : Und Try.prog 226 (.func #[56, 82] #[90] false) := ⟨Try.underlying226⟩
instance : Scal Try.prog 226 := Scal.mk' Try.underlying226 rfl inferInstance
instance : Inf Try.prog 227 1 8 (.nilFunc) := ⟨by kernel_rfl⟩
instance : Und Try.prog 227 (.func #[207, 2, 2] #[4] false) := ⟨Try.underlying227⟩
instance : Scal Try.prog 227 := Scal.mk' Try.underlying227 rfl inferInstance
instance : Inf Try.prog 228 1 8 (.nilFunc) := ⟨by kernel_rfl⟩
instance : Und Try.prog 228 (.func #[32, 2, 2] #[4] false) := ⟨Try.underlying228⟩
instance : Scal Try.prog 228 := Scal.mk' Try.underlying228 rfl inferInstance
instance : Inf Try.prog 229 1 8 (.nilFunc) := ⟨by kernel_rfl⟩
instance : Und Try.prog 229 (.func #[2] #[131] false) := ⟨Try.underlying229⟩
instance : Scal Try.prog 229 := Scal.mk' Try.underlying229 rfl inferInstance
instance : Inf Try.prog 230 1 8 (.nilFunc) := ⟨by kernel_rfl⟩
instance : Und Try.prog 230 (.func #[32, 128] #[125] false) := ⟨Try.underlying230⟩
instance : Scal Try.prog 230 := Scal.mk' Try.underlying230 rfl inferInstance
instance : Inf Try.prog 231 1 8 (.nilFunc) := ⟨by kernel_rfl⟩
instance : Und Try.prog 231 (.func #[207, 2] #[2] false) := ⟨Try.underlying231⟩
instance : Scal Try.prog 231 := Scal.mk' Try.underlying231 rfl inferInstance
instance : Inf Try.prog 232 1 8 (.nilFunc) := ⟨by kernel_rfl⟩
instance : Und Try.prog 232 (.func #[32, 2] #[2] false) := ⟨Try.underlying232⟩
instance : Scal Try.prog 232 := Scal.mk' Try.underlying232 rfl inferInstance
instance : Inf Try.prog 233 1 8 (.nilFunc) := ⟨by kernel_rfl⟩
instance : Und Try.prog 233 (.func #[3, 3, 2] #[207] false) := ⟨Try.underlying233⟩
instance : Scal Try.prog 233 := Scal.mk' Try.underlying233 rfl inferInstance
instance : Inf Try.prog 234 1 0 (.tuple #[.agg #[.int .i64 0, .int .i64 0, .bool false, .int .i64 0], .bool false]) := ⟨by kernel_rfl⟩
instance : Inf Try.prog 235 1 8 (.nilFunc) := ⟨by kernel_rfl⟩
instance : Und Try.prog 235 (.func #[56, 152] #[160, 4] false) := ⟨Try.underlying235⟩
instance : Scal Try.prog 235 := Scal.mk' Try.underlying235 rfl inferInstance
instance : Inf Try.prog 236 1 8 (.pointer none) := ⟨by kernel_rfl⟩
instance : Und Try.prog 236 (.pointer 239) := ⟨Try.underlying236⟩
instance : Scal Try.prog 236 := Scal.mk' Try.underlying236 rfl inferInstance
instance : Inf Try.prog 237 1 24 (.slice none 0 0) := ⟨by kernel_rfl⟩
instance : Und Try.prog 237 (.slice 241) := ⟨Try.underlying237⟩
instance : Scal Try.prog 237 := Scal.mk' Try.underlying237 rfl inferInstance
instance : Inf Try.prog 238 3 40 (.agg #[.pointer none, .pointer none, .slice none 0 0]) := ⟨by kernel_rfl⟩
instance : Aggr Try.prog 238 3 := Aggr.mk' Try.underlying238 rfl inferInstance
instance : Places Try.prog 238 [(0, 1), (1, 1), (2, 1)] := ⟨_, Try.underlying238, ⟨rfl, infSize (t := 76), rfl, infSize (t := 76), rfl, infSize (t := 237), trivial⟩⟩
instance : FieldOff Try.prog 238 0 0 := FieldOff.mk' (ft := 76) Try.underlying238 rfl rfl rfl inferInstance (by decide)
instance : FieldOff Try.prog 238 1 1 := FieldOff.mk' (ft := 76) Try.underlying238 rfl rfl rfl inferInstance (by decide)
instance : FieldOff Try.prog 238 2 2 := FieldOff.mk' (ft := 237) Try.underlying238 rfl rfl rfl inferInstance (by decide)
instance : Inf Try.prog 239 3 40 (.agg #[.pointer none, .pointer none, .slice none 0 0]) := ⟨by kernel_rfl⟩
instance : Aggr Try.prog 239 3 := Aggr.mk' Try.underlying239 rfl inferInstance
instance : Places Try.prog 239 [(0, 1), (1, 1), (2, 1)] := ⟨_, Try.underlying239, ⟨rfl, infSize (t := 76), rfl, infSize (t := 76), rfl, infSize (t := 237), trivial⟩⟩
instance : FieldOff Try.prog 239 0 0 := FieldOff.mk' (ft := 76) Try.underlying239 rfl rfl rfl inferInstance (by decide)
instance : FieldOff Try.prog 239 1 1 := FieldOff.mk' (ft := 76) Try.underlying239 rfl rfl rfl inferInstance (by decide)
instance : FieldOff Try.prog 239 2 2 := FieldOff.mk' (ft := 237) Try.underlying239 rfl rfl rfl inferInstance (by decide)
instance : Inf Try.prog 240 3 24 (.agg #[.pointer none, .pointer none, .pointer none]) := ⟨by kernel_rfl⟩
instance : Aggr Try.prog 240 3 := Aggr.mk' Try.underlying240 rfl inferInstance
instance : Places Try.prog 240 [(0, 1), (1, 1), (2, 1)] := ⟨_, Try.underlying240, ⟨rfl, infSize (t := 76), rfl, infSize (t := 76), rfl, infSize (t := 76), trivial⟩⟩
instance : FieldOff Try.prog 240 0 0 := FieldOff.mk' (ft := 76) Try.underlying240 rfl rfl rfl inferInstance (by decide)
instance : FieldOff Try.prog 240 1 1 := FieldOff.mk' (ft := 76) Try.underlying240 rfl rfl rfl inferInstance (by decide)
instance : FieldOff Try.prog 240 2 2 := FieldOff.mk' (ft := 76) Try.underlying240 rfl rfl rfl inferInstance (by decide)
instance : Inf Try.prog 241 3 24 (.agg #[.pointer none, .pointer none, .pointer none]) := ⟨by kernel_rfl⟩
instance : Aggr Try.prog 241 3 := Aggr.mk' Try.underlying241 rfl inferInstance
instance : Places Try.prog 241 [(0, 1), (1, 1), (2, 1)] := ⟨_, Try.underlying241, ⟨rfl, infSize (t := 76), rfl, infSize (t := 76), rfl, infSize (t := 76), trivial⟩⟩
instance : FieldOff Try.prog 241 0 0 := FieldOff.mk' (ft := 76) Try.underlying241 rfl rfl rfl inferInstance (by decide)
instance : FieldOff Try.prog 241 1 1 := FieldOff.mk' (ft := 76) Try.underlying241 rfl rfl rfl inferInstance (by decide)
instance : FieldOff Try.prog 241 2 2 := FieldOff.mk' (ft := 76) Try.underlying241 rfl rfl rfl inferInstance (by decide)
instance : Inf Try.prog 242 3 24 (.agg #[.bool false, .int .i64 0, .int .i64 0]) := ⟨by kernel_rfl⟩
instance : Aggr Try.prog 242 3 := Aggr.mk' Try.underlying242 rfl inferInstance
instance : Places Try.prog 242 [(0, 1), (1, 1), (2, 1)] := ⟨_, Try.underlying242, ⟨rfl, infSize (t := 4), rfl, infSize (t := 2), rfl, infSize (t := 2), trivial⟩⟩
instance : FieldOff Try.prog 242 0 0 := FieldOff.mk' (ft := 4) Try.underlying242 rfl rfl rfl inferInstance (by decide)
instance : FieldOff Try.prog 242 1 1 := FieldOff.mk' (ft := 2) Try.underlying242 rfl rfl rfl inferInstance (by decide)
instance : FieldOff Try.prog 242 2 2 := FieldOff.mk' (ft := 2) Try.underlying242 rfl rfl rfl inferInstance (by decide)
instance : Inf Try.prog 243 3 24 (.agg #[.bool false, .int .i64 0, .int .i64 0]) := ⟨by kernel_rfl⟩
instance : Aggr Try.prog 243 3 := Aggr.mk' Try.underlying243 rfl inferInstance
instance : Places Try.prog 243 [(0, 1), (1, 1), (2, 1)] := ⟨_, Try.underlying243, ⟨rfl, infSize (t := 4), rfl, infSize (t := 2), rfl, infSize (t := 2), trivial⟩⟩
instance : FieldOff Try.prog 243 0 0 := FieldOff.mk' (ft := 4) Try.underlying243 rfl rfl rfl inferInstance (by decide)
instance : FieldOff Try.prog 243 1 1 := FieldOff.mk' (ft := 2) Try.underlying243 rfl rfl rfl inferInstance (by decide)
instance : FieldOff Try.prog 243 2 2 := FieldOff.mk' (ft := 2) Try.underlying243 rfl rfl rfl inferInstance (by decide)
instance : Inf Try.prog 244 24 192 (.agg #[.bool false, .int .i64 0, .int .i64 0, .bool false, .int .i64 0, .int .i64 0, .bool false, .int .i64 0, .int .i64 0, .bool false, .int .i64 0, .int .i64 0, .bool false, .int .i64 0, .int .i64 0, .bool false, .int .i64 0, .int .i64 0, .bool false, .int .i64 0, .int .i64 0, .bool false, .int .i64 0, .int .i64 0]) := ⟨by kernel_rfl⟩
instance : Und Try.prog 244 (.array 8 243) := ⟨Try.underlying244⟩
instance : Aggr Try.prog 244 24 := Aggr.mk' Try.underlying244 rfl inferInstance
instance : Inf Try.prog 245 1 0 (.tuple #[.agg #[.bool false, .int .i64 0, .int .i64 0, .bool false, .int .i64 0, .int .i64 0, .bool false, .int .i64 0, .int .i64 0, .bool false, .int .i64 0, .int .i64 0, .bool false, .int .i64 0, .int .i64 0, .bool false, .int .i64 0, .int .i64 0, .bool false, .int .i64 0, .int .i64 0, .bool false, .int .i64 0, .int .i64 0], .int .i64 0]) := ⟨by kernel_rfl⟩
instance : Inf Try.prog 246 1 8 (.nilFunc) := ⟨by kernel_rfl⟩
instance : Und Try.prog 246 (.func #[32] #[244, 3] false) := ⟨Try.underlying246⟩
instance : Scal Try.prog 246 := Scal.mk' Try.underlying246 rfl inferInstance
instance : Inf Try.prog 247 1 8 (.pointer none) := ⟨by kernel_rfl⟩
instance : Und Try.prog 247 (.pointer 241) := ⟨Try.underlying247⟩
instance : Scal Try.prog 247 := Scal.mk' Try.underlying247 rfl inferInstance
instance : Inf Try.prog 248 1 8 (.nilFunc) := ⟨by kernel_rfl⟩
instance : Und Try.prog 248 (.func #[2] #[247] false) := ⟨Try.underlying248⟩
instance : Scal Try.prog 248 := Scal.mk' Try.underlying248 rfl inferInstance
instance : Inf Try.prog 249 1 8 (.nilFunc) := ⟨by kernel_rfl⟩
instance : Und Try.prog 249 (.func #[45] #[32] false) := ⟨Try.underlying249⟩
instance : Scal Try.prog 249 := Scal.mk' Try.underlying249 rfl inferInstance
instance : Inf Try.prog 250 1 0 (.tuple #[.slice none 0 0, .bool false]) := ⟨by kernel_rfl⟩
instance : Inf Try.prog 251 1 8 (.nilFunc) := ⟨by kernel_rfl⟩
instance : Und Try.prog 251 (.func #[] #[191, 4] false) := ⟨Try.underlying251⟩
instance : Scal Try.prog 251 := Scal.mk' Try.underlying251 rfl inferInstance
instance : Inf Try.prog 252 1 8 (.nilFunc) := ⟨by kernel_rfl⟩
instance : Und Try.prog 252 (.func #[] #[47] false) := ⟨Try.underlying252⟩
instance : Scal Try.prog 252 := Scal.mk' Try.underlying252 rfl inferInstance
instance : Inf Try.prog 253 1 8 (.nilFunc) := ⟨by kernel_rfl⟩
instance : Und Try.prog 253 (.func #[46, 2, 2, 2] #[2, 4] false) := ⟨Try.underlying253⟩
instance : Scal Try.prog 253 := Scal.mk' Try.underlying253 rfl inferInstance
instance : Inf Try.prog 254 1 0 (.tuple #[.slice none 0 0, .int .i64 0]) := ⟨by kernel_rfl⟩
instance : Inf Try.prog 255 1 8 (.nilFunc) := ⟨by kernel_rfl⟩
instance : Und Try.prog 255 (.func #[3] #[25, 3] false) := ⟨Try.underlying255⟩
instance : Scal Try.prog 255 := Scal.mk' Try.underlying255 rfl inferInstance
instance : Inf Try.prog 256 1 8 (.nilFunc) := ⟨by kernel_rfl⟩
instance : Und Try.prog 256 (.func #[25, 3] #[3] false) := ⟨Try.underlying256⟩
instance : Scal Try.prog 256 := Scal.mk' Try.underlying256 rfl inferInstance
instance : Inf Try.prog 257 1 8 (.nilFunc) := ⟨by kernel_rfl⟩
instance : Und Try.prog 257 (.func #[75] #[4] false) := ⟨Try.underlying257⟩
instance : Scal Try.prog 257 := Scal.mk' Try.underlying257 rfl inferInstance
instance : Inf Try.prog 258 1 8 (.nilFunc) := ⟨by kernel_rfl⟩
instance : Und Try.prog 258 (.func #[2] #[2] false) := ⟨Try.underlying258⟩
instance : Scal Try.prog 258 := Scal.mk' Try.underlying258 rfl inferInstance
instance : Inf Try.prog 259 1 8 (.nilFunc) := ⟨by kernel_rfl⟩
instance : Und Try.prog 259 (.func #[2, 2] #[2] false) := ⟨Try.underlying259⟩
instance : Scal Try.prog 259 := Scal.mk' Try.underlying259 rfl inferInstance
instance : Inf Try.prog 260 1 8 (.nilFunc) := ⟨by kernel_rfl⟩
instance : Und Try.prog 260 (.func #[46, 207, 2, 2] #[75] false) := ⟨Try.underlying260⟩
instance : Scal Try.prog 260 := Scal.mk' Try.underlying260 rfl inferInstance
instance : Inf Try.prog 261 0 0 (.agg #[]) := ⟨by kernel_rfl⟩
instance : Aggr Try.prog 261 0 := Aggr.mk' Try.underlying261 rfl inferInstance
instance : Places Try.prog 261 [] := ⟨_, Try.underlying261, trivial⟩
instance : Inf Try.prog 262 0 0 (.agg #[]) := ⟨by kernel_rfl⟩
instance : Aggr Try.prog 262 0 := Aggr.mk' Try.underlying262 rfl inferInstance
instance : Places Try.prog 262 [] := ⟨_, Try.underlying262, trivial⟩
instance : Inf Try.prog 263 0 0 (.agg #[]) := ⟨by kernel_rfl⟩
instance : Aggr Try.prog 263 0 := Aggr.mk' Try.underlying263 rfl inferInstance
instance : Places Try.prog 263 [] := ⟨_, Try.underlying263, trivial⟩
instance : Inf Try.prog 264 1 8 (.agg #[.int .i64 0]) := ⟨by kernel_rfl⟩
instance : Aggr Try.prog 264 1 := Aggr.mk' Try.underlying264 rfl inferInstance
instance : Places Try.prog 264 [(0, 0), (0, 0), (0, 1)] := ⟨_, Try.underlying264, ⟨rfl, infSize (t := 262), rfl, infSize (t := 263), rfl, infSize (t := 2), trivial⟩⟩
instance : FieldOff Try.prog 264 2 0 := FieldOff.mk' (ft := 2) Try.underlying264 rfl rfl rfl inferInstance (by decide)
instance : Inf Try.prog 265 1 8 (.agg #[.int .i64 0]) := ⟨by kernel_rfl⟩
instance : Aggr Try.prog 265 1 := Aggr.mk' Try.underlying265 rfl inferInstance
instance : Places Try.prog 265 [(0, 0), (0, 0), (0, 1)] := ⟨_, Try.underlying265, ⟨rfl, infSize (t := 262), rfl, infSize (t := 263), rfl, infSize (t := 2), trivial⟩⟩
instance : FieldOff Try.prog 265 2 0 := FieldOff.mk' (ft := 2) Try.underlying265 rfl rfl rfl inferInstance (by decide)
instance : Inf Try.prog 266 0 0 (.agg #[]) := ⟨by kernel_rfl⟩
instance : Aggr Try.prog 266 0 := Aggr.mk' Try.underlying266 rfl inferInstance
instance : Places Try.prog 266 [] := ⟨_, Try.underlying266, trivial⟩
instance : Inf Try.prog 267 1 4 (.int .u32 0) := ⟨by kernel_rfl⟩
instance : Und Try.prog 267 (.int .u32) := ⟨Try.underlying267⟩
instance : Scal Try.prog 267 := Scal.mk' Try.underlying267 rfl inferInstance
instance : Inf Try.prog 268 2 8 (.agg #[.int .i32 0, .int .u32 0]) := ⟨by kernel_rfl⟩
instance : Aggr Try.prog 268 2 := Aggr.mk' Try.underlying268 rfl inferInstance
instance : Places Try.prog 268 [(0, 1), (1, 1)] := ⟨_, Try.underlying268, ⟨rfl, infSize (t := 21), rfl, infSize (t := 267), trivial⟩⟩
instance : EqI2 Try.prog 268 .i32 .u32 := ⟨by kernel_rfl, by kernel_rfl, _, _, Try.underlying268, by decide, by decide, rfl, rfl, Try.underlying21, Try.underlying267⟩
instance : FieldOff Try.prog 268 0 0 := FieldOff.mk' (ft := 21) Try.underlying268 rfl rfl rfl inferInstance (by decide)
instance : FieldOff Try.prog 268 1 1 := FieldOff.mk' (ft := 267) Try.underlying268 rfl rfl rfl inferInstance (by decide)
instance : Inf Try.prog 269 2 8 (.agg #[.int .i32 0, .int .u32 0]) := ⟨by kernel_rfl⟩
instance : Aggr Try.prog 269 2 := Aggr.mk' Try.underlying269 rfl inferInstance
instance : Places Try.prog 269 [(0, 1), (1, 1)] := ⟨_, Try.underlying269, ⟨rfl, infSize (t := 21), rfl, infSize (t := 267), trivial⟩⟩
instance : EqI2 Try.prog 269 .i32 .u32 := ⟨by kernel_rfl, by kernel_rfl, _, _, Try.underlying269, by decide, by decide, rfl, rfl, Try.underlying21, Try.underlying267⟩
instance : FieldOff Try.prog 269 0 0 := FieldOff.mk' (ft := 21) Try.underlying269 rfl rfl rfl inferInstance (by decide)
instance : FieldOff Try.prog 269 1 1 := FieldOff.mk' (ft := 267) Try.underlying269 rfl rfl rfl inferInstance (by decide)
instance : Inf Try.prog 270 2 8 (.agg #[.int .i32 0, .int .u32 0]) := ⟨by kernel_rfl⟩
instance : Aggr Try.prog 270 2 := Aggr.mk' Try.underlying270 rfl inferInstance
instance : Places Try.prog 270 [(0, 0), (0, 2)] := ⟨_, Try.underlying270, ⟨rfl, infSize (t := 266), rfl, infSize (t := 269), trivial⟩⟩
instance : FieldOff Try.prog 270 1 0 := FieldOff.mk' (ft := 269) Try.underlying270 rfl rfl rfl inferInstance (by decide)
instance : Inf Try.prog 271 2 8 (.agg #[.int .i32 0, .int .u32 0]) := ⟨by kernel_rfl⟩
instance : Aggr Try.prog 271 2 := Aggr.mk' Try.underlying271 rfl inferInstance
instance : Places Try.prog 271 [(0, 0), (0, 2)] := ⟨_, Try.underlying271, ⟨rfl, infSize (t := 266), rfl, infSize (t := 269), trivial⟩⟩
instance : FieldOff Try.prog 271 1 0 := FieldOff.mk' (ft := 269) Try.underlying271 rfl rfl rfl inferInstance (by decide)
instance : Inf Try.prog 272 5 32 (.agg #[.int .i64 0, .bool false, .int .i32 0, .int .u32 0, .chan none]) := ⟨by kernel_rfl⟩
instance : Aggr Try.prog 272 5 := Aggr.mk' Try.underlying272 rfl inferInstance
instance : Places Try.prog 272 [(0, 1), (1, 1), (2, 2), (4, 1)] := ⟨_, Try.underlying272, ⟨rfl, infSize (t := 265), rfl, infSize (t := 4), rfl, infSize (t := 271), rfl, infSize (t := 196), trivial⟩⟩
instance : FieldOff Try.prog 272 0 0 := FieldOff.mk' (ft := 265) Try.underlying272 rfl rfl rfl inferInstance (by decide)
instance : FieldOff Try.prog 272 1 1 := FieldOff.mk' (ft := 4) Try.underlying272 rfl rfl rfl inferInstance (by decide)
instance : FieldOff Try.prog 272 2 2 := FieldOff.mk' (ft := 271) Try.underlying272 rfl rfl rfl inferInstance (by decide)
instance : FieldOff Try.prog 272 3 4 := FieldOff.mk' (ft := 196) Try.underlying272 rfl rfl rfl inferInstance (by decide)
instance : Inf Try.prog 273 5 32 (.agg #[.int .i64 0, .bool false, .int .i32 0, .int .u32 0, .chan none]) := ⟨by kernel_rfl⟩
instance : Aggr Try.prog 273 5 := Aggr.mk' Try.underlying273 rfl inferInstance
instance : Places Try.prog 273 [(0, 1), (1, 1), (2, 2), (4, 1)] := ⟨_, Try.underlying273, ⟨rfl, infSize (t := 265), rfl, infSize (t := 4), rfl, infSize (t := 271), rfl, infSize (t := 196), trivial⟩⟩
instance : FieldOff Try.prog 273 0 0 := FieldOff.mk' (ft := 265) Try.underlying273 rfl rfl rfl inferInstance (by decide)
instance : FieldOff Try.prog 273 1 1 := FieldOff.mk' (ft := 4) Try.underlying273 rfl rfl rfl inferInstance (by decide)
instance : FieldOff Try.prog 273 2 2 := FieldOff.mk' (ft := 271) Try.underlying273 rfl rfl rfl inferInstance (by decide)
instance : FieldOff Try.prog 273 3 4 := FieldOff.mk' (ft := 196) Try.underlying273 rfl rfl rfl inferInstance (by decide)
instance : Inf Try.prog 274 1 0 (.tuple #[.int .i64 0, .int .i64 0, .bool false]) := ⟨by kernel_rfl⟩
instance : Inf Try.prog 275 1 8 (.nilFunc) := ⟨by kernel_rfl⟩
instance : Und Try.prog 275 (.func #[197, 46, 2, 2] #[2, 2, 4] false) := ⟨Try.underlying275⟩
instance : Scal Try.prog 275 := Scal.mk' Try.underlying275 rfl inferInstance
instance : Inf Try.prog 276 1 8 (.nilFunc) := ⟨by kernel_rfl⟩
instance : Und Try.prog 276 (.func #[] #[2] false) := ⟨Try.underlying276⟩
instance : Scal Try.prog 276 := Scal.mk' Try.underlying276 rfl inferInstance
instance : Inf Try.prog 277 1 8 (.int .u64 0) := ⟨by kernel_rfl⟩
instance : Und Try.prog 277 (.int .u64) := ⟨Try.underlying277⟩
instance : Scal Try.prog 277 := Scal.mk' Try.underlying277 rfl inferInstance
instance : Inf Try.prog 278 1 8 (.nilFunc) := ⟨by kernel_rfl⟩
instance : Und Try.prog 278 (.func #[2, 2] #[4] false) := ⟨Try.underlying278⟩
instance : Scal Try.prog 278 := Scal.mk' Try.underlying278 rfl inferInstance
instance : Inf Try.prog 279 1 8 (.pointer none) := ⟨by kernel_rfl⟩
instance : Und Try.prog 279 (.pointer 244) := ⟨Try.underlying279⟩
instance : Scal Try.prog 279 := Scal.mk' Try.underlying279 rfl inferInstance
instance : Inf Try.prog 280 1 0 (.tuple #[.int .i64 0, .bool false]) := ⟨by kernel_rfl⟩
instance : Inf Try.prog 281 1 8 (.nilFunc) := ⟨by kernel_rfl⟩
instance : Und Try.prog 281 (.func #[3, 3] #[75, 4] false) := ⟨Try.underlying281⟩
instance : Scal Try.prog 281 := Scal.mk' Try.underlying281 rfl inferInstance
instance : Inf Try.prog 282 1 8 (.nilFunc) := ⟨by kernel_rfl⟩
instance : Und Try.prog 282 (.func #[3, 207] #[4] false) := ⟨Try.underlying282⟩
instance : Scal Try.prog 282 := Scal.mk' Try.underlying282 rfl inferInstance
instance : Inf Try.prog 283 1 8 (.nilFunc) := ⟨by kernel_rfl⟩
instance : Und Try.prog 283 (.func #[284, 2] #[] false) := ⟨Try.underlying283⟩
instance : Scal Try.prog 283 := Scal.mk' Try.underlying283 rfl inferInstance
instance : Inf Try.prog 284 1 8 (.pointer none) := ⟨by kernel_rfl⟩
instance : Und Try.prog 284 (.pointer 2) := ⟨Try.underlying284⟩
instance : Scal Try.prog 284 := Scal.mk' Try.underlying284 rfl inferInstance
instance : Inf Try.prog 285 1 2 (.int .u16 0) := ⟨by kernel_rfl⟩
instance : Und Try.prog 285 (.int .u16) := ⟨Try.underlying285⟩
instance : Scal Try.prog 285 := Scal.mk' Try.underlying285 rfl inferInstance
instance : Inf Try.prog 286 1 8 (.nilFunc) := ⟨by kernel_rfl⟩
instance : Und Try.prog 286 (.func #[197, 75] #[] false) := ⟨Try.underlying286⟩
instance : Scal Try.prog 286 := Scal.mk' Try.underlying286 rfl inferInstance
instance : Inf Try.prog 287 1 8 (.nilFunc) := ⟨by kernel_rfl⟩
instance : Und Try.prog 287 (.func #[284] #[2] false) := ⟨Try.underlying287⟩
instance : Scal Try.prog 287 := Scal.mk' Try.underlying287 rfl inferInstance
instance : Inf Try.prog 288 1 8 (.nilFunc) := ⟨by kernel_rfl⟩
instance : Und Try.prog 288 (.func #[284, 2, 2] #[4] false) := ⟨Try.underlying288⟩
instance : Scal Try.prog 288 := Scal.mk' Try.underlying288 rfl inferInstance
instance : Inf Try.prog 289 1 8 (.nilFunc) := ⟨by kernel_rfl⟩
instance : Und Try.prog 289 (.func #[284, 2] #[2] false) := ⟨Try.underlying289⟩
instance : Scal Try.prog 289 := Scal.mk' Try.underlying289 rfl inferInstance
instance : Inf Try.prog 290 0 0 (.agg #[]) := ⟨by kernel_rfl⟩
instance : Aggr Try.prog 290 0 := Aggr.mk' Try.underlying290 rfl inferInstance
instance : Places Try.prog 290 [] := ⟨_, Try.underlying290, trivial⟩
instance : Inf Try.prog 291 1 8 (.pointer none) := ⟨by kernel_rfl⟩
instance : Und Try.prog 291 (.pointer 271) := ⟨Try.underlying291⟩
instance : Scal Try.prog 291 := Scal.mk' Try.underlying291 rfl inferInstance
instance : Inf Try.prog 292 1 8 (.pointer none) := ⟨by kernel_rfl⟩
instance : Und Try.prog 292 (.pointer 269) := ⟨Try.underlying292⟩
instance : Scal Try.prog 292 := Scal.mk' Try.underlying292 rfl inferInstance
instance : Inf Try.prog 293 1 8 (.nilFunc) := ⟨by kernel_rfl⟩
instance : Und Try.prog 293 (.func #[294, 21, 21] #[4] false) := ⟨Try.underlying293⟩
instance : Scal Try.prog 293 := Scal.mk' Try.underlying293 rfl inferInstance
instance : Inf Try.prog 294 1 8 (.pointer none) := ⟨by kernel_rfl⟩
instance : Und Try.prog 294 (.pointer 21) := ⟨Try.underlying294⟩
instance : Scal Try.prog 294 := Scal.mk' Try.underlying294 rfl inferInstance
instance : Inf Try.prog 295 1 8 (.nilFunc) := ⟨by kernel_rfl⟩
instance : Und Try.prog 295 (.func #[296] #[] false) := ⟨Try.underlying295⟩
instance : Scal Try.prog 295 := Scal.mk' Try.underlying295 rfl inferInstance
instance : Inf Try.prog 296 1 8 (.pointer none) := ⟨by kernel_rfl⟩
instance : Und Try.prog 296 (.unsafePointer) := ⟨Try.underlying296⟩
instance : Scal Try.prog 296 := Scal.mk' Try.underlying296 rfl inferInstance
instance : Inf Try.prog 297 1 8 (.nilFunc) := ⟨by kernel_rfl⟩
instance : Und Try.prog 297 (.func #[294, 21] #[21] false) := ⟨Try.underlying297⟩
instance : Scal Try.prog 297 := Scal.mk' Try.underlying297 rfl inferInstance
instance : Inf Try.prog 298 1 8 (.nilFunc) := ⟨by kernel_rfl⟩
instance : Und Try.prog 298 (.func #[21] #[] false) := ⟨Try.underlying298⟩
instance : Scal Try.prog 298 := Scal.mk' Try.underlying298 rfl inferInstance
instance : Inf Try.prog 299 1 8 (.int .u64 0) := ⟨by kernel_rfl⟩
instance : Und Try.prog 299 (.int .u64) := ⟨Try.underlying299⟩
instance : Scal Try.prog 299 := Scal.mk' Try.underlying299 rfl inferInstance
instance : Inf Try.prog 300 1 8 (.nilFunc) := ⟨by kernel_rfl⟩
instance : Und Try.prog 300 (.func #[9] #[] false) := ⟨Try.underlying300⟩
instance : Scal Try.prog 300 := Scal.mk' Try.underlying300 rfl inferInstance
instance : Inf Try.prog 301 1 8 (.nilFunc) := ⟨by kernel_rfl⟩
instance : Und Try.prog 301 (.func #[302, 4, 3] #[] false) := ⟨Try.underlying301⟩
instance : Scal Try.prog 301 := Scal.mk' Try.underlying301 rfl inferInstance
instance : Inf Try.prog 302 1 8 (.pointer none) := ⟨by kernel_rfl⟩
instance : Und Try.prog 302 (.pointer 267) := ⟨Try.underlying302⟩
instance : Scal Try.prog 302 := Scal.mk' Try.underlying302 rfl inferInstance
instance : Inf Try.prog 303 1 8 (.nilFunc) := ⟨by kernel_rfl⟩
instance : Und Try.prog 303 (.func #[] #[9] false) := ⟨Try.underlying303⟩
instance : Scal Try.prog 303 := Scal.mk' Try.underlying303 rfl inferInstance
instance : Inf Try.prog 304 4 40 (.agg #[.pointer none, .pointer none, .pointer none, .string .empty]) := ⟨by kernel_rfl⟩
instance : Aggr Try.prog 304 4 := Aggr.mk' Try.underlying304 rfl inferInstance
instance : Places Try.prog 304 [(0, 1), (1, 1), (2, 1), (3, 1)] := ⟨_, Try.underlying304, ⟨rfl, infSize (t := 17), rfl, infSize (t := 17), rfl, infSize (t := 17), rfl, infSize (t := 9), trivial⟩⟩
instance : FieldOff Try.prog 304 0 0 := FieldOff.mk' (ft := 17) Try.underlying304 rfl rfl rfl inferInstance (by decide)
instance : FieldOff Try.prog 304 1 1 := FieldOff.mk' (ft := 17) Try.underlying304 rfl rfl rfl inferInstance (by decide)
instance : FieldOff Try.prog 304 2 2 := FieldOff.mk' (ft := 17) Try.underlying304 rfl rfl rfl inferInstance (by decide)
instance : FieldOff Try.prog 304 3 3 := FieldOff.mk' (ft := 9) Try.underlying304 rfl rfl rfl inferInstance (by decide)
instance : Inf Try.prog 305 4 40 (.agg #[.pointer none, .pointer none, .pointer none, .string .empty]) := ⟨by kernel_rfl⟩
instance : Aggr Try.prog 305 4 := Aggr.mk' Try.underlying305 rfl inferInstance
instance : Places Try.prog 305 [(0, 1), (1, 1), (2, 1), (3, 1)] := ⟨_, Try.underlying305, ⟨rfl, infSize (t := 17), rfl, infSize (t := 17), rfl, infSize (t := 17), rfl, infSize (t := 9), trivial⟩⟩
instance : FieldOff Try.prog 305 0 0 := FieldOff.mk' (ft := 17) Try.underlying305 rfl rfl rfl inferInstance (by decide)
instance : FieldOff Try.prog 305 1 1 := FieldOff.mk' (ft := 17) Try.underlying305 rfl rfl rfl inferInstance (by decide)
instance : FieldOff Try.prog 305 2 2 := FieldOff.mk' (ft := 17) Try.underlying305 rfl rfl rfl inferInstance (by decide)
instance : FieldOff Try.prog 305 3 3 := FieldOff.mk' (ft := 9) Try.underlying305 rfl rfl rfl inferInstance (by decide)
instance : Inf Try.prog 306 0 0 (.agg #[]) := ⟨by kernel_rfl⟩
instance : Und Try.prog 306 (.array 0 16) := ⟨Try.underlying306⟩
instance : Aggr Try.prog 306 0 := Aggr.mk' Try.underlying306 rfl inferInstance
instance : Inf Try.prog 307 0 0 (.agg #[]) := ⟨by kernel_rfl⟩
instance : Aggr Try.prog 307 0 := Aggr.mk' Try.underlying307 rfl inferInstance
instance : Places Try.prog 307 [(0, 0)] := ⟨_, Try.underlying307, ⟨rfl, infSize (t := 306), trivial⟩⟩
instance : Inf Try.prog 308 0 0 (.agg #[]) := ⟨by kernel_rfl⟩
instance : Aggr Try.prog 308 0 := Aggr.mk' Try.underlying308 rfl inferInstance
instance : Places Try.prog 308 [(0, 0)] := ⟨_, Try.underlying308, ⟨rfl, infSize (t := 306), trivial⟩⟩
instance : Inf Try.prog 309 1 8 (.nilFunc) := ⟨by kernel_rfl⟩
instance : Und Try.prog 309 (.func #[] #[3] false) := ⟨Try.underlying309⟩
instance : Scal Try.prog 309 := Scal.mk' Try.underlying309 rfl inferInstance
instance : Inf Try.prog 310 1 1 (.int .u8 0) := ⟨by kernel_rfl⟩
instance : Und Try.prog 310 (.int .u8) := ⟨Try.underlying310⟩
instance : Scal Try.prog 310 := Scal.mk' Try.underlying310 rfl inferInstance
instance : Inf Try.prog 311 1 1 (.int .u8 0) := ⟨by kernel_rfl⟩
instance : Und Try.prog 311 (.int .u8) := ⟨Try.underlying311⟩
instance : Scal Try.prog 311 := Scal.mk' Try.underlying311 rfl inferInstance
instance : Inf Try.prog 312 1 8 (.nilFunc) := ⟨by kernel_rfl⟩
instance : Und Try.prog 312 (.func #[296, 296] #[4] false) := ⟨Try.underlying312⟩
instance : Scal Try.prog 312 := Scal.mk' Try.underlying312 rfl inferInstance
instance : Inf Try.prog 313 1 8 (.pointer none) := ⟨by kernel_rfl⟩
instance : Und Try.prog 313 (.pointer 5) := ⟨Try.underlying313⟩
instance : Scal Try.prog 313 := Scal.mk' Try.underlying313 rfl inferInstance
instance : Inf Try.prog 314 1 4 (.int .i32 0) := ⟨by kernel_rfl⟩
instance : Und Try.prog 314 (.int .i32) := ⟨Try.underlying314⟩
instance : Scal Try.prog 314 := Scal.mk' Try.underlying314 rfl inferInstance
instance : Inf Try.prog 315 1 4 (.int .i32 0) := ⟨by kernel_rfl⟩
instance : Und Try.prog 315 (.int .i32) := ⟨Try.underlying315⟩
instance : Scal Try.prog 315 := Scal.mk' Try.underlying315 rfl inferInstance
instance : Inf Try.prog 316 11 48 (.agg #[.int .u64 0, .int .u64 0, .int .u32 0, .int .u8 0, .int .u8 0, .int .u8 0, .int .u8 0, .nilFunc, .pointer none, .int .i32 0, .int .i32 0]) := ⟨by kernel_rfl⟩
instance : Aggr Try.prog 316 11 := Aggr.mk' Try.underlying316 rfl inferInstance
instance : Places Try.prog 316 [(0, 1), (1, 1), (2, 1), (3, 1), (4, 1), (5, 1), (6, 1), (7, 1), (8, 1), (9, 1), (10, 1)] := ⟨_, Try.underlying316, ⟨rfl, infSize (t := 12), rfl, infSize (t := 12), rfl, infSize (t := 267), rfl, infSize (t := 310), rfl, infSize (t := 5), rfl, infSize (t := 5), rfl, infSize (t := 311), rfl, infSize (t := 312), rfl, infSize (t := 313), rfl, infSize (t := 314), rfl, infSize (t := 315), trivial⟩⟩
instance : FieldOff Try.prog 316 0 0 := FieldOff.mk' (ft := 12) Try.underlying316 rfl rfl rfl inferInstance (by decide)
instance : FieldOff Try.prog 316 1 1 := FieldOff.mk' (ft := 12) Try.underlying316 rfl rfl rfl inferInstance (by decide)
instance : FieldOff Try.prog 316 2 2 := FieldOff.mk' (ft := 267) Try.underlying316 rfl rfl rfl inferInstance (by decide)
instance : FieldOff Try.prog 316 3 3 := FieldOff.mk' (ft := 310) Try.underlying316 rfl rfl rfl inferInstance (by decide)
instance : FieldOff Try.prog 316 4 4 := FieldOff.mk' (ft := 5) Try.underlying316 rfl rfl rfl inferInstance (by decide)
instance : FieldOff Try.prog 316 5 5 := FieldOff.mk' (ft := 5) Try.underlying316 rfl rfl rfl inferInstance (by decide)
instance : FieldOff Try.prog 316 6 6 := FieldOff.mk' (ft := 311) Try.underlying316 rfl rfl rfl inferInstance (by decide)
instance : FieldOff Try.prog 316 7 7 := FieldOff.mk' (ft := 312) Try.underlying316 rfl rfl rfl inferInstance (by decide)
instance : FieldOff Try.prog 316 8 8 := FieldOff.mk' (ft := 313) Try.underlying316 rfl rfl rfl inferInstance (by decide)
instance : FieldOff Try.prog 316 9 9 := FieldOff.mk' (ft := 314) Try.underlying316 rfl rfl rfl inferInstance (by decide)
instance : FieldOff Try.prog 316 10 10 := FieldOff.mk' (ft := 315) Try.underlying316 rfl rfl rfl inferInstance (by decide)
instance : Inf Try.prog 317 11 48 (.agg #[.int .u64 0, .int .u64 0, .int .u32 0, .int .u8 0, .int .u8 0, .int .u8 0, .int .u8 0, .nilFunc, .pointer none, .int .i32 0, .int .i32 0]) := ⟨by kernel_rfl⟩
instance : Aggr Try.prog 317 11 := Aggr.mk' Try.underlying317 rfl inferInstance
instance : Places Try.prog 317 [(0, 1), (1, 1), (2, 1), (3, 1), (4, 1), (5, 1), (6, 1), (7, 1), (8, 1), (9, 1), (10, 1)] := ⟨_, Try.underlying317, ⟨rfl, infSize (t := 12), rfl, infSize (t := 12), rfl, infSize (t := 267), rfl, infSize (t := 310), rfl, infSize (t := 5), rfl, infSize (t := 5), rfl, infSize (t := 311), rfl, infSize (t := 312), rfl, infSize (t := 313), rfl, infSize (t := 314), rfl, infSize (t := 315), trivial⟩⟩
instance : FieldOff Try.prog 317 0 0 := FieldOff.mk' (ft := 12) Try.underlying317 rfl rfl rfl inferInstance (by decide)
instance : FieldOff Try.prog 317 1 1 := FieldOff.mk' (ft := 12) Try.underlying317 rfl rfl rfl inferInstance (by decide)
instance : FieldOff Try.prog 317 2 2 := FieldOff.mk' (ft := 267) Try.underlying317 rfl rfl rfl inferInstance (by decide)
instance : FieldOff Try.prog 317 3 3 := FieldOff.mk' (ft := 310) Try.underlying317 rfl rfl rfl inferInstance (by decide)
instance : FieldOff Try.prog 317 4 4 := FieldOff.mk' (ft := 5) Try.underlying317 rfl rfl rfl inferInstance (by decide)
instance : FieldOff Try.prog 317 5 5 := FieldOff.mk' (ft := 5) Try.underlying317 rfl rfl rfl inferInstance (by decide)
instance : FieldOff Try.prog 317 6 6 := FieldOff.mk' (ft := 311) Try.underlying317 rfl rfl rfl inferInstance (by decide)
instance : FieldOff Try.prog 317 7 7 := FieldOff.mk' (ft := 312) Try.underlying317 rfl rfl rfl inferInstance (by decide)
instance : FieldOff Try.prog 317 8 8 := FieldOff.mk' (ft := 313) Try.underlying317 rfl rfl rfl inferInstance (by decide)
instance : FieldOff Try.prog 317 9 9 := FieldOff.mk' (ft := 314) Try.underlying317 rfl rfl rfl inferInstance (by decide)
instance : FieldOff Try.prog 317 10 10 := FieldOff.mk' (ft := 315) Try.underlying317 rfl rfl rfl inferInstance (by decide)
instance : IsFn Try.prog 2 Try.f2 := ⟨Try.func2⟩
instance : HasBody Try.prog 2 := ⟨_, _, Try.func2, rfl, of_decide_eq_true (by kernel_rfl)⟩
instance : IsFn Try.prog 3 Try.f3 := ⟨Try.func3⟩
instance : HasBody Try.prog 3 := ⟨_, _, Try.func3, rfl, of_decide_eq_true (by kernel_rfl)⟩
instance : IsFn Try.prog 4 Try.f4 := ⟨Try.func4⟩
instance : HasBody Try.prog 4 := ⟨_, _, Try.func4, rfl, of_decide_eq_true (by kernel_rfl)⟩
instance : IsFn Try.prog 5 Try.f5 := ⟨Try.func5⟩
instance : HasBody Try.prog 5 := ⟨_, _, Try.func5, rfl, of_decide_eq_true (by kernel_rfl)⟩
instance : IsFn Try.prog 6 Try.f6 := ⟨Try.func6⟩
instance : HasBody Try.prog 6 := ⟨_, _, Try.func6, rfl, of_decide_eq_true (by kernel_rfl)⟩
instance : IsFn Try.prog 7 Try.f7 := ⟨Try.func7⟩
instance : HasBody Try.prog 7 := ⟨_, _, Try.func7, rfl, of_decide_eq_true (by kernel_rfl)⟩
instance : IsFn Try.prog 8 Try.f8 := ⟨Try.func8⟩
instance : HasBody Try.prog 8 := ⟨_, _, Try.func8, rfl, of_decide_eq_true (by kernel_rfl)⟩
instance : IsFn Try.prog 9 Try.f9 := ⟨Try.func9⟩
instance : HasBody Try.prog 9 := ⟨_, _, Try.func9, rfl, of_decide_eq_true (by kernel_rfl)⟩
instance : IsFn Try.prog 10 Try.f10 := ⟨Try.func10⟩
instance : HasBody Try.prog 10 := ⟨_, _, Try.func10, rfl, of_decide_eq_true (by kernel_rfl)⟩
instance : IsFn Try.prog 11 Try.f11 := ⟨Try.func11⟩
instance : HasBody Try.prog 11 := ⟨_, _, Try.func11, rfl, of_decide_eq_true (by kernel_rfl)⟩
instance : IsFn Try.prog 12 Try.f12 := ⟨Try.func12⟩
instance : HasBody Try.prog 12 := ⟨_, _, Try.func12, rfl, of_decide_eq_true (by kernel_rfl)⟩
instance : IsFn Try.prog 13 Try.f13 := ⟨Try.func13⟩
instance : HasBody Try.prog 13 := ⟨_, _, Try.func13, rfl, of_decide_eq_true (by kernel_rfl)⟩
instance : IsFn Try.prog 14 Try.f14 := ⟨Try.func14⟩
instance : HasBody Try.prog 14 := ⟨_, _, Try.func14, rfl, of_decide_eq_true (by kernel_rfl)⟩
instance : IsFn Try.prog 15 Try.f15 := ⟨Try.func15⟩
instance : HasBody Try.prog 15 := ⟨_, _, Try.func15, rfl, of_decide_eq_true (by kernel_rfl)⟩
instance : IsFn Try.prog 16 Try.f16 := ⟨Try.func16⟩
instance : HasBody Try.prog 16 := ⟨_, _, Try.func16, rfl, of_decide_eq_true (by kernel_rfl)⟩
instance : IsFn Try.prog 17 Try.f17 := ⟨Try.func17⟩
instance : HasBody Try.prog 17 := ⟨_, _, Try.func17, rfl, of_decide_eq_true (by kernel_rfl)⟩
instance : IsFn Try.prog 18 Try.f18 := ⟨Try.func18⟩
instance : HasBody Try.prog 18 := ⟨_, _, Try.func18, rfl, of_decide_eq_true (by kernel_rfl)⟩
instance : IsFn Try.prog 19 Try.f19 := ⟨Try.func19⟩
instance : HasBody Try.prog 19 := ⟨_, _, Try.func19, rfl, of_decide_eq_true (by kernel_rfl)⟩
instance : IsFn Try.prog 20 Try.f20 := ⟨Try.func20⟩
instance : HasBody Try.prog 20 := ⟨_, _, Try.func20, rfl, of_decide_eq_true (by kernel_rfl)⟩
instance : IsFn Try.prog 21 Try.f21 := ⟨Try.func21⟩
instance : HasBody Try.prog 21 := ⟨_, _, Try.func21, rfl, of_decide_eq_true (by kernel_rfl)⟩
instance : IsFn Try.prog 22 Try.f22 := ⟨Try.func22⟩
instance : HasBody Try.prog 22 := ⟨_, _, Try.func22, rfl, of_decide_eq_true (by kernel_rfl)⟩
instance : IsFn Try.prog 23 Try.f23 := ⟨Try.func23⟩
instance : HasBody Try.prog 23 := ⟨_, _, Try.func23, rfl, of_decide_eq_true (by kernel_rfl)⟩
instance : IsFn Try.prog 24 Try.f24 := ⟨Try.func24⟩
instance : HasBody Try.prog 24 := ⟨_, _, Try.func24, rfl, of_decide_eq_true (by kernel_rfl)⟩
instance : IsFn Try.prog 25 Try.f25 := ⟨Try.func25⟩
instance : HasBody Try.prog 25 := ⟨_, _, Try.func25, rfl, of_decide_eq_true (by kernel_rfl)⟩
instance : IsFn Try.prog 26 Try.f26 := ⟨Try.func26⟩
instance : HasBody Try.prog 26 := ⟨_, _, Try.func26, rfl, of_decide_eq_true (by kernel_rfl)⟩
instance : IsFn Try.prog 27 Try.f27 := ⟨Try.func27⟩
instance : HasBody Try.prog 27 := ⟨_, _, Try.func27, rfl, of_decide_eq_true (by kernel_rfl)⟩
instance : IsFn Try.prog 28 Try.f28 := ⟨Try.func28⟩
instance : HasBody Try.prog 28 := ⟨_, _, Try.func28, rfl, of_decide_eq_true (by kernel_rfl)⟩
instance : IsFn Try.prog 29 Try.f29 := ⟨Try.func29⟩
instance : HasBody Try.prog 29 := ⟨_, _, Try.func29, rfl, of_decide_eq_true (by kernel_rfl)⟩
instance : IsFn Try.prog 30 Try.f30 := ⟨Try.func30⟩
instance : HasBody Try.prog 30 := ⟨_, _, Try.func30, rfl, of_decide_eq_true (by kernel_rfl)⟩
instance : IsFn Try.prog 31 Try.f31 := ⟨Try.func31⟩
instance : HasBody Try.prog 31 := ⟨_, _, Try.func31, rfl, of_decide_eq_true (by kernel_rfl)⟩
instance : IsFn Try.prog 32 Try.f32 := ⟨Try.func32⟩
instance : HasBody Try.prog 32 := ⟨_, _, Try.func32, rfl, of_decide_eq_true (by kernel_rfl)⟩
instance : IsFn Try.prog 33 Try.f33 := ⟨Try.func33⟩
instance : HasBody Try.prog 33 := ⟨_, _, Try.func33, rfl, of_decide_eq_true (by kernel_rfl)⟩
instance : IsFn Try.prog 34 Try.f34 := ⟨Try.func34⟩
instance : HasBody Try.prog 34 := ⟨_, _, Try.func34, rfl, of_decide_eq_true (by kernel_rfl)⟩
instance : IsFn Try.prog 35 Try.f35 := ⟨Try.func35⟩
instance : HasBody Try.prog 35 := ⟨_, _, Try.func35, rfl, of_decide_eq_true (by kernel_rfl)⟩
instance : IsFn Try.prog 36 Try.f36 := ⟨Try.func36⟩
instance : HasBody Try.prog 36 := ⟨_, _, Try.func36, rfl, of_decide_eq_true (by kernel_rfl)⟩
instance : IsFn Try.prog 37 Try.f37 := ⟨Try.func37⟩
instance : HasBody Try.prog 37 := ⟨_, _, Try.func37, rfl, of_decide_eq_true (by kernel_rfl)⟩
instance : IsFn Try.prog 38 Try.f38 := ⟨Try.func38⟩
instance : HasBody Try.prog 38 := ⟨_, _, Try.func38, rfl, of_decide_eq_true (by kernel_rfl)⟩
instance : IsFn Try.prog 39 Try.f39 := ⟨Try.func39⟩
instance : HasBody Try.prog 39 := ⟨_, _, Try.func39, rfl, of_decide_eq_true (by kernel_rfl)⟩
instance : IsFn Try.prog 40 Try.f40 := ⟨Try.func40⟩
instance : HasBody Try.prog 40 := ⟨_, _, Try.func40, rfl, of_decide_eq_true (by kernel_rfl)⟩
instance : IsFn Try.prog 41 Try.f41 := ⟨Try.func41⟩
instance : HasBody Try.prog 41 := ⟨_, _, Try.func41, rfl, of_decide_eq_true (by kernel_rfl)⟩
instance : IsFn Try.prog 42 Try.f42 := ⟨Try.func42⟩
instance : HasBody Try.prog 42 := ⟨_, _, Try.func42, rfl, of_decide_eq_true (by kernel_rfl)⟩
instance : IsFn Try.prog 43 Try.f43 := ⟨Try.func43⟩
instance : HasBody Try.prog 43 := ⟨_, _, Try.func43, rfl, of_decide_eq_true (by kernel_rfl)⟩
instance : IsFn Try.prog 44 Try.f44 := ⟨Try.func44⟩
instance : HasBody Try.prog 44 := ⟨_, _, Try.func44, rfl, of_decide_eq_true (by kernel_rfl)⟩
instance : IsFn Try.prog 45 Try.f45 := ⟨Try.func45⟩
instance : HasBody Try.prog 45 := ⟨_, _, Try.func45, rfl, of_decide_eq_true (by kernel_rfl)⟩
instance : IsFn Try.prog 46 Try.f46 := ⟨Try.func46⟩
instance : HasBody Try.prog 46 := ⟨_, _, Try.func46, rfl, of_decide_eq_true (by kernel_rfl)⟩
instance : IsFn Try.prog 47 Try.f47 := ⟨Try.func47⟩
instance : HasBody Try.prog 47 := ⟨_, _, Try.func47, rfl, of_decide_eq_true (by kernel_rfl)⟩
instance : IsFn Try.prog 48 Try.f48 := ⟨Try.func48⟩
instance : HasBody Try.prog 48 := ⟨_, _, Try.func48, rfl, of_decide_eq_true (by kernel_rfl)⟩
instance : IsFn Try.prog 49 Try.f49 := ⟨Try.func49⟩
instance : HasBody Try.prog 49 := ⟨_, _, Try.func49, rfl, of_decide_eq_true (by kernel_rfl)⟩
instance : IsFn Try.prog 50 Try.f50 := ⟨Try.func50⟩
instance : HasBody Try.prog 50 := ⟨_, _, Try.func50, rfl, of_decide_eq_true (by kernel_rfl)⟩
instance : IsFn Try.prog 51 Try.f51 := ⟨Try.func51⟩
instance : HasBody Try.prog 51 := ⟨_, _, Try.func51, rfl, of_decide_eq_true (by kernel_rfl)⟩
instance : IsFn Try.prog 52 Try.f52 := ⟨Try.func52⟩
instance : HasBody Try.prog 52 := ⟨_, _, Try.func52, rfl, of_decide_eq_true (by kernel_rfl)⟩
instance : IsFn Try.prog 53 Try.f53 := ⟨Try.func53⟩
instance : HasBody Try.prog 53 := ⟨_, _, Try.func53, rfl, of_decide_eq_true (by kernel_rfl)⟩
instance : IsFn Try.prog 54 Try.f54 := ⟨Try.func54⟩
instance : HasBody Try.prog 54 := ⟨_, _, Try.func54, rfl, of_decide_eq_true (by kernel_rfl)⟩
instance : IsFn Try.prog 55 Try.f55 := ⟨Try.func55⟩
instance : HasBody Try.prog 55 := ⟨_, _, Try.func55, rfl, of_decide_eq_true (by kernel_rfl)⟩
instance : IsFn Try.prog 56 Try.f56 := ⟨Try.func56⟩
instance : HasBody Try.prog 56 := ⟨_, _, Try.func56, rfl, of_decide_eq_true (by kernel_rfl)⟩
instance : IsFn Try.prog 57 Try.f57 := ⟨Try.func57⟩
instance : HasBody Try.prog 57 := ⟨_, _, Try.func57, rfl, of_decide_eq_true (by kernel_rfl)⟩
instance : IsFn Try.prog 58 Try.f58 := ⟨Try.func58⟩
instance : HasBody Try.prog 58 := ⟨_, _, Try.func58, rfl, of_decide_eq_true (by kernel_rfl)⟩
instance : IsFn Try.prog 59 Try.f59 := ⟨Try.func59⟩
instance : HasBody Try.prog 59 := ⟨_, _, Try.func59, rfl, of_decide_eq_true (by kernel_rfl)⟩
instance : IsFn Try.prog 60 Try.f60 := ⟨Try.func60⟩
instance : HasBody Try.prog 60 := ⟨_, _, Try.func60, rfl, of_decide_eq_true (by kernel_rfl)⟩
instance : IsFn Try.prog 61 Try.f61 := ⟨Try.func61⟩
instance : HasBody Try.prog 61 := ⟨_, _, Try.func61, rfl, of_decide_eq_true (by kernel_rfl)⟩
instance : IsFn Try.prog 62 Try.f62 := ⟨Try.func62⟩
instance : HasBody Try.prog 62 := ⟨_, _, Try.func62, rfl, of_decide_eq_true (by kernel_rfl)⟩
instance : IsFn Try.prog 63 Try.f63 := ⟨Try.func63⟩
instance : HasBody Try.prog 63 := ⟨_, _, Try.func63, rfl, of_decide_eq_true (by kernel_rfl)⟩
instance : IsFn Try.prog 64 Try.f64 := ⟨Try.func64⟩
instance : HasBody Try.prog 64 := ⟨_, _, Try.func64, rfl, of_decide_eq_true (by kernel_rfl)⟩
instance : IsFn Try.prog 65 Try.f65 := ⟨Try.func65⟩
instance : HasBody Try.prog 65 := ⟨_, _, Try.func65, rfl, of_decide_eq_true (by kernel_rfl)⟩
instance : IsFn Try.prog 66 Try.f66 := ⟨Try.func66⟩
instance : HasBody Try.prog 66 := ⟨_, _, Try.func66, rfl, of_decide_eq_true (by kernel_rfl)⟩
instance : IsFn Try.prog 67 Try.f67 := ⟨Try.func67⟩
instance : HasBody Try.prog 67 := ⟨_, _, Try.func67, rfl, of_decide_eq_true (by kernel_rfl)⟩
instance : IsFn Try.prog 68 Try.f68 := ⟨Try.func68⟩
instance : HasBody Try.prog 68 := ⟨_, _, Try.func68, rfl, of_decide_eq_true (by kernel_rfl)⟩
instance : IsFn Try.prog 69 Try.f69 := ⟨Try.func69⟩
instance : HasBody Try.prog 69 := ⟨_, _, Try.func69, rfl, of_decide_eq_true (by kernel_rfl)⟩
instance : IsFn Try.prog 70 Try.f70 := ⟨Try.func70⟩
instance : HasBody Try.prog 70 := ⟨_, _, Try.func70, rfl, of_decide_eq_true (by kernel_rfl)⟩
instance : IsFn Try.prog 71 Try.f71 := ⟨Try.func71⟩
instance : HasBody Try.prog 71 := ⟨_, _, Try.func71, rfl, of_decide_eq_true (by kernel_rfl)⟩
instance : IsFn Try.prog 72 Try.f72 := ⟨Try.func72⟩
instance : HasBody Try.prog 72 := ⟨_, _, Try.func72, rfl, of_decide_eq_true (by kernel_rfl)⟩
instance : IsFn Try.prog 73 Try.f73 := ⟨Try.func73⟩
instance : HasBody Try.prog 73 := ⟨_, _, Try.func73, rfl, of_decide_eq_true (by kernel_rfl)⟩
instance : IsFn Try.prog 74 Try.f74 := ⟨Try.func74⟩
instance : HasBody Try.prog 74 := ⟨_, _, Try.func74, rfl, of_decide_eq_true (by kernel_rfl)⟩
instance : IsFn Try.prog 75 Try.f75 := ⟨Try.func75⟩
instance : HasBody Try.prog 75 := ⟨_, _, Try.func75, rfl, of_decide_eq_true (by kernel_rfl)⟩
instance : IsFn Try.prog 76 Try.f76 := ⟨Try.func76⟩
instance : HasBody Try.prog 76 := ⟨_, _, Try.func76, rfl, of_decide_eq_true (by kernel_rfl)⟩
instance : IsFn Try.prog 77 Try.f77 := ⟨Try.func77⟩
instance : HasBody Try.prog 77 := ⟨_, _, Try.func77, rfl, of_decide_eq_true (by kernel_rfl)⟩
instance : IsFn Try.prog 78 Try.f78 := ⟨Try.func78⟩
instance : HasBody Try.prog 78 := ⟨_, _, Try.func78, rfl, of_decide_eq_true (by kernel_rfl)⟩
instance : IsFn Try.prog 79 Try.f79 := ⟨Try.func79⟩
instance : HasBody Try.prog 79 := ⟨_, _, Try.func79, rfl, of_decide_eq_true (by kernel_rfl)⟩
instance : IsFn Try.prog 80 Try.f80 := ⟨Try.func80⟩
instance : HasBody Try.prog 80 := ⟨_, _, Try.func80, rfl, of_decide_eq_true (by kernel_rfl)⟩
instance : IsFn Try.prog 81 Try.f81 := ⟨Try.func81⟩
instance : HasBody Try.prog 81 := ⟨_, _, Try.func81, rfl, of_decide_eq_true (by kernel_rfl)⟩
instance : IsFn Try.prog 82 Try.f82 := ⟨Try.func82⟩
instance : HasBody Try.prog 82 := ⟨_, _, Try.func82, rfl, of_decide_eq_true (by kernel_rfl)⟩
instance : IsFn Try.prog 83 Try.f83 := ⟨Try.func83⟩
instance : HasBody Try.prog 83 := ⟨_, _, Try.func83, rfl, of_decide_eq_true (by kernel_rfl)⟩
instance : IsFn Try.prog 84 Try.f84 := ⟨Try.func84⟩
instance : HasBody Try.prog 84 := ⟨_, _, Try.func84, rfl, of_decide_eq_true (by kernel_rfl)⟩
instance : IsFn Try.prog 85 Try.f85 := ⟨Try.func85⟩
instance : HasBody Try.prog 85 := ⟨_, _, Try.func85, rfl, of_decide_eq_true (by kernel_rfl)⟩
instance : IsFn Try.prog 86 Try.f86 := ⟨Try.func86⟩
instance : HasBody Try.prog 86 := ⟨_, _, Try.func86, rfl, of_decide_eq_true (by kernel_rfl)⟩
instance : IsFn Try.prog 87 Try.f87 := ⟨Try.func87⟩
instance : HasBody Try.prog 87 := ⟨_, _, Try.func87, rfl, of_decide_eq_true (by kernel_rfl)⟩
instance : IsFn Try.prog 88 Try.f88 := ⟨Try.func88⟩
instance : HasBody Try.prog 88 := ⟨_, _, Try.func88, rfl, of_decide_eq_true (by kernel_rfl)⟩
instance : IsFn Try.prog 89 Try.f89 := ⟨Try.func89⟩
instance : HasBody Try.prog 89 := ⟨_, _, Try.func89, rfl, of_decide_eq_true (by kernel_rfl)⟩
instance : IsFn Try.prog 90 Try.f90 := ⟨Try.func90⟩
instance : HasBody Try.prog 90 := ⟨_, _, Try.func90, rfl, of_decide_eq_true (by kernel_rfl)⟩
instance : IsFn Try.prog 91 Try.f91 := ⟨Try.func91⟩
instance : HasBody Try.prog 91 := ⟨_, _, Try.func91, rfl, of_decide_eq_true (by kernel_rfl)⟩
instance : IsFn Try.prog 92 Try.f92 := ⟨Try.func92⟩
instance : HasBody Try.prog 92 := ⟨_, _, Try.func92, rfl, of_decide_eq_true (by kernel_rfl)⟩
instance : IsFn Try.prog 93 Try.f93 := ⟨Try.func93⟩
instance : HasBody Try.prog 93 := ⟨_, _, Try.func93, rfl, of_decide_eq_true (by kernel_rfl)⟩
instance : IsFn Try.prog 94 Try.f94 := ⟨Try.func94⟩
instance : HasBody Try.prog 94 := ⟨_, _, Try.func94, rfl, of_decide_eq_true (by kernel_rfl)⟩
instance : IsFn Try.prog 95 Try.f95 := ⟨Try.func95⟩
instance : HasBody Try.prog 95 := ⟨_, _, Try.func95, rfl, of_decide_eq_true (by kernel_rfl)⟩
instance : IsFn Try.prog 96 Try.f96 := ⟨Try.func96⟩
instance : HasBody Try.prog 96 := ⟨_, _, Try.func96, rfl, of_decide_eq_true (by kernel_rfl)⟩
instance : IsFn Try.prog 97 Try.f97 := ⟨Try.func97⟩
instance : HasBody Try.prog 97 := ⟨_, _, Try.func97, rfl, of_decide_eq_true (by kernel_rfl)⟩
instance : IsFn Try.prog 98 Try.f98 := ⟨Try.func98⟩
instance : HasBody Try.prog 98 := ⟨_, _, Try.func98, rfl, of_decide_eq_true (by kernel_rfl)⟩
instance : IsFn Try.prog 99 Try.f99 := ⟨Try.func99⟩
instance : HasBody Try.prog 99 := ⟨_, _, Try.func99, rfl, of_decide_eq_true (by kernel_rfl)⟩
instance : IsFn Try.prog 100 Try.f100 := ⟨Try.func100⟩
instance : HasBody Try.prog 100 := ⟨_, _, Try.func100, rfl, of_decide_eq_true (by kernel_rfl)⟩
instance : IsFn Try.prog 101 Try.f101 := ⟨Try.func101⟩
instance : HasBody Try.prog 101 := ⟨_, _, Try.func101, rfl, of_decide_eq_true (by kernel_rfl)⟩
instance : IsFn Try.prog 102 Try.f102 := ⟨Try.func102⟩
instance : HasBody Try.prog 102 := ⟨_, _, Try.func102, rfl, of_decide_eq_true (by kernel_rfl)⟩
instance : IsFn Try.prog 103 Try.f103 := ⟨Try.func103⟩
instance : HasBody Try.prog 103 := ⟨_, _, Try.func103, rfl, of_decide_eq_true (by kernel_rfl)⟩
instance : IsFn Try.prog 104 Try.f104 := ⟨Try.func104⟩
instance : HasBody Try.prog 104 := ⟨_, _, Try.func104, rfl, of_decide_eq_true (by kernel_rfl)⟩
instance : IsFn Try.prog 105 Try.f105 := ⟨Try.func105⟩
instance : HasBody Try.prog 105 := ⟨_, _, Try.func105, rfl, of_decide_eq_true (by kernel_rfl)⟩
instance : IsFn Try.prog 106 Try.f106 := ⟨Try.func106⟩
instance : HasBody Try.prog 106 := ⟨_, _, Try.func106, rfl, of_decide_eq_true (by kernel_rfl)⟩
instance : IsFn Try.prog 107 Try.f107 := ⟨Try.func107⟩
instance : HasBody Try.prog 107 := ⟨_, _, Try.func107, rfl, of_decide_eq_true (by kernel_rfl)⟩
instance : IsFn Try.prog 108 Try.f108 := ⟨Try.func108⟩
instance : HasBody Try.prog 108 := ⟨_, _, Try.func108, rfl, of_decide_eq_true (by kernel_rfl)⟩
instance : IsFn Try.prog 109 Try.f109 := ⟨Try.func109⟩
instance : HasBody Try.prog 109 := ⟨_, _, Try.func109, rfl, of_decide_eq_true (by kernel_rfl)⟩
instance : IsFn Try.prog 110 Try.f110 := ⟨Try.func110⟩
instance : HasBody Try.prog 110 := ⟨_, _, Try.func110, rfl, of_decide_eq_true (by kernel_rfl)⟩
instance : IsFn Try.prog 111 Try.f111 := ⟨Try.func111⟩
instance : HasBody Try.prog 111 := ⟨_, _, Try.func111, rfl, of_decide_eq_true (by kernel_rfl)⟩
instance : IsFn Try.prog 112 Try.f112 := ⟨Try.func112⟩
instance : HasBody Try.prog 112 := ⟨_, _, Try.func112, rfl, of_decide_eq_true (by kernel_rfl)⟩
instance : IsFn Try.prog 113 Try.f113 := ⟨Try.func113⟩
instance : HasBody Try.prog 113 := ⟨_, _, Try.func113, rfl, of_decide_eq_true (by kernel_rfl)⟩
instance : IsFn Try.prog 114 Try.f114 := ⟨Try.func114⟩
instance : HasBody Try.prog 114 := ⟨_, _, Try.func114, rfl, of_decide_eq_true (by kernel_rfl)⟩
instance : IsFn Try.prog 115 Try.f115 := ⟨Try.func115⟩
instance : HasBody Try.prog 115 := ⟨_, _, Try.func115, rfl, of_decide_eq_true (by kernel_rfl)⟩
instance : IsFn Try.prog 116 Try.f116 := ⟨Try.func116⟩
instance : HasBody Try.prog 116 := ⟨_, _, Try.func116, rfl, of_decide_eq_true (by kernel_rfl)⟩
instance : IsFn Try.prog 117 Try.f117 := ⟨Try.func117⟩
instance : HasBody Try.prog 117 := ⟨_, _, Try.func117, rfl, of_decide_eq_true (by kernel_rfl)⟩
instance : IsFn Try.prog 118 Try.f118 := ⟨Try.func118⟩
instance : HasBody Try.prog 118 := ⟨_, _, Try.func118, rfl, of_decide_eq_true (by kernel_rfl)⟩
instance : IsFn Try.prog 119 Try.f119 := ⟨Try.func119⟩
instance : HasBody Try.prog 119 := ⟨_, _, Try.func119, rfl, of_decide_eq_true (by kernel_rfl)⟩
instance : IsFn Try.prog 120 Try.f120 := ⟨Try.func120⟩
instance : HasBody Try.prog 120 := ⟨_, _, Try.func120, rfl, of_decide_eq_true (by kernel_rfl)⟩
instance : IsFn Try.prog 121 Try.f121 := ⟨Try.func121⟩
instance : HasBody Try.prog 121 := ⟨_, _, Try.func121, rfl, of_decide_eq_true (by kernel_rfl)⟩
instance : IsFn Try.prog 122 Try.f122 := ⟨Try.func122⟩
instance : HasBody Try.prog 122 := ⟨_, _, Try.func122, rfl, of_decide_eq_true (by kernel_rfl)⟩
instance : IsFn Try.prog 123 Try.f123 := ⟨Try.func123⟩
instance : HasBody Try.prog 123 := ⟨_, _, Try.func123, rfl, of_decide_eq_true (by kernel_rfl)⟩
instance : IsFn Try.prog 124 Try.f124 := ⟨Try.func124⟩
instance : HasBody Try.prog 124 := ⟨_, _, Try.func124, rfl, of_decide_eq_true (by kernel_rfl)⟩
instance : IsFn Try.prog 125 Try.f125 := ⟨Try.func125⟩
instance : HasBody Try.prog 125 := ⟨_, _, Try.func125, rfl, of_decide_eq_true (by kernel_rfl)⟩
instance : IsFn Try.prog 126 Try.f126 := ⟨Try.func126⟩
instance : HasBody Try.prog 126 := ⟨_, _, Try.func126, rfl, of_decide_eq_true (by kernel_rfl)⟩
instance : IsFn Try.prog 127 Try.f127 := ⟨Try.func127⟩
instance : HasBody Try.prog 127 := ⟨_, _, Try.func127, rfl, of_decide_eq_true (by kernel_rfl)⟩
instance : IsFn Try.prog 128 Try.f128 := ⟨Try.func128⟩
instance : HasBody Try.prog 128 := ⟨_, _, Try.func128, rfl, of_decide_eq_true (by kernel_rfl)⟩
instance : IsFn Try.prog 129 Try.f129 := ⟨Try.func129⟩
instance : HasBody Try.prog 129 := ⟨_, _, Try.func129, rfl, of_decide_eq_true (by kernel_rfl)⟩
instance : IsFn Try.prog 130 Try.f130 := ⟨Try.func130⟩
instance : HasBody Try.prog 130 := ⟨_, _, Try.func130, rfl, of_decide_eq_true (by kernel_rfl)⟩
instance : IsFn Try.prog 131 Try.f131 := ⟨Try.func131⟩
instance : HasBody Try.prog 131 := ⟨_, _, Try.func131, rfl, of_decide_eq_true (by kernel_rfl)⟩
instance : IsFn Try.prog 132 Try.f132 := ⟨Try.func132⟩
instance : HasBody Try.prog 132 := ⟨_, _, Try.func132, rfl, of_decide_eq_true (by kernel_rfl)⟩
instance : IsFn Try.prog 133 Try.f133 := ⟨Try.func133⟩
instance : HasBody Try.prog 133 := ⟨_, _, Try.func133, rfl, of_decide_eq_true (by kernel_rfl)⟩
instance : IsFn Try.prog 134 Try.f134 := ⟨Try.func134⟩
instance : HasBody Try.prog 134 := ⟨_, _, Try.func134, rfl, of_decide_eq_true (by kernel_rfl)⟩
instance : IsFn Try.prog 135 Try.f135 := ⟨Try.func135⟩
instance : HasBody Try.prog 135 := ⟨_, _, Try.func135, rfl, of_decide_eq_true (by kernel_rfl)⟩
instance : IsFn Try.prog 136 Try.f136 := ⟨Try.func136⟩
instance : HasBody Try.prog 136 := ⟨_, _, Try.func136, rfl, of_decide_eq_true (by kernel_rfl)⟩
instance : IsFn Try.prog 137 Try.f137 := ⟨Try.func137⟩
instance : HasBody Try.prog 137 := ⟨_, _, Try.func137, rfl, of_decide_eq_true (by kernel_rfl)⟩
instance : IsFn Try.prog 138 Try.f138 := ⟨Try.func138⟩
instance : HasBody Try.prog 138 := ⟨_, _, Try.func138, rfl, of_decide_eq_true (by kernel_rfl)⟩
instance : IsFn Try.prog 139 Try.f139 := ⟨Try.func139⟩
instance : HasBody Try.prog 139 := ⟨_, _, Try.func139, rfl, of_decide_eq_true (by kernel_rfl)⟩
instance : IsFn Try.prog 140 Try.f140 := ⟨Try.func140⟩
instance : HasBody Try.prog 140 := ⟨_, _, Try.func140, rfl, of_decide_eq_true (by kernel_rfl)⟩
instance : IsFn Try.prog 141 Try.f141 := ⟨Try.func141⟩
instance : HasBody Try.prog 141 := ⟨_, _, Try.func141, rfl, of_decide_eq_true (by kernel_rfl)⟩
instance : IsFn Try.prog 142 Try.f142 := ⟨Try.func142⟩
instance : HasBody Try.prog 142 := ⟨_, _, Try.func142, rfl, of_decide_eq_true (by kernel_rfl)⟩
instance : IsFn Try.prog 143 Try.f143 := ⟨Try.func143⟩
instance : HasBody Try.prog 143 := ⟨_, _, Try.func143, rfl, of_decide_eq_true (by kernel_rfl)⟩
instance : IsFn Try.prog 144 Try.f144 := ⟨Try.func144⟩
instance : HasBody Try.prog 144 := ⟨_, _, Try.func144, rfl, of_decide_eq_true (by kernel_rfl)⟩
instance : IsFn Try.prog 145 Try.f145 := ⟨Try.func145⟩
instance : HasBody Try.prog 145 := ⟨_, _, Try.func145, rfl, of_decide_eq_true (by kernel_rfl)⟩
instance : IsFn Try.prog 146 Try.f146 := ⟨Try.func146⟩
instance : HasBody Try.prog 146 := ⟨_, _, Try.func146, rfl, of_decide_eq_true (by kernel_rfl)⟩
instance : IsFn Try.prog 147 Try.f147 := ⟨Try.func147⟩
instance : HasBody Try.prog 147 := ⟨_, _, Try.func147, rfl, of_decide_eq_true (by kernel_rfl)⟩
instance : IsFn Try.prog 148 Try.f148 := ⟨Try.func148⟩
instance : HasBody Try.prog 148 := ⟨_, _, Try.func148, rfl, of_decide_eq_true (by kernel_rfl)⟩
instance : IsFn Try.prog 149 Try.f149 := ⟨Try.func149⟩
instance : HasBody Try.prog 149 := ⟨_, _, Try.func149, rfl, of_decide_eq_true (by kernel_rfl)⟩
instance : IsFn Try.prog 150 Try.f150 := ⟨Try.func150⟩
instance : HasBody Try.prog 150 := ⟨_, _, Try.func150, rfl, of_decide_eq_true (by kernel_rfl)⟩
instance : IsFn Try.prog 151 Try.f151 := ⟨Try.func151⟩
instance : HasBody Try.prog 151 := ⟨_, _, Try.func151, rfl, of_decide_eq_true (by kernel_rfl)⟩
instance : IsFn Try.prog 152 Try.f152 := ⟨Try.func152⟩
instance : HasBody Try.prog 152 := ⟨_, _, Try.func152, rfl, of_decide_eq_true (by kernel_rfl)⟩
instance : IsFn Try.prog 153 Try.f153 := ⟨Try.func153⟩
instance : HasBody Try.prog 153 := ⟨_, _, Try.func153, rfl, of_decide_eq_true (by kernel_rfl)⟩
instance : IsFn Try.prog 154 Try.f154 := ⟨Try.func154⟩
instance : HasBody Try.prog 154 := ⟨_, _, Try.func154, rfl, of_decide_eq_true (by kernel_rfl)⟩
instance : IsFn Try.prog 155 Try.f155 := ⟨Try.func155⟩
instance : HasBody Try.prog 155 := ⟨_, _, Try.func155, rfl, of_decide_eq_true (by kernel_rfl)⟩
instance : IsFn Try.prog 156 Try.f156 := ⟨Try.func156⟩
instance : HasBody Try.prog 156 := ⟨_, _, Try.func156, rfl, of_decide_eq_true (by kernel_rfl)⟩
instance : IsFn Try.prog 157 Try.f157 := ⟨Try.func157⟩
instance : HasBody Try.prog 157 := ⟨_, _, Try.func157, rfl, of_decide_eq_true (by kernel_rfl)⟩
instance : IsFn Try.prog 158 Try.f158 := ⟨Try.func158⟩
instance : HasBody Try.prog 158 := ⟨_, _, Try.func158, rfl, of_decide_eq_true (by kernel_rfl)⟩
instance : IsFn Try.prog 159 Try.f159 := ⟨Try.func159⟩
instance : HasBody Try.prog 159 := ⟨_, _, Try.func159, rfl, of_decide_eq_true (by kernel_rfl)⟩
instance : ExtFn Try.prog 160 (Extern.Atomic.storeT) := ⟨_, Try.func160, by kernel_rfl, by kernel_rfl, by kernel_rfl, by kernel_rfl⟩
instance : IsFn Try.prog 161 Try.f161 := ⟨Try.func161⟩
instance : HasBody Try.prog 161 := ⟨_, _, Try.func161, rfl, of_decide_eq_true (by kernel_rfl)⟩
instance : IsFn Try.prog 162 Try.f162 := ⟨Try.func162⟩
instance : HasBody Try.prog 162 := ⟨_, _, Try.func162, rfl, of_decide_eq_true (by kernel_rfl)⟩
instance : IsFn Try.prog 163 Try.f163 := ⟨Try.func163⟩
instance : HasBody Try.prog 163 := ⟨_, _, Try.func163, rfl, of_decide_eq_true (by kernel_rfl)⟩
instance : ExtFn Try.prog 164 (Extern.Atomic.loadT (.int .i64)) := ⟨_, Try.func164, by kernel_rfl, by kernel_rfl, by kernel_rfl, by kernel_rfl⟩
instance : ExtFn Try.prog 165 (Extern.Atomic.casT (.int .i64)) := ⟨_, Try.func165, by kernel_rfl, by kernel_rfl, by kernel_rfl, by kernel_rfl⟩
instance : ExtFn Try.prog 166 (Extern.Atomic.update (Op.intArith .add) .i64 true) := ⟨_, Try.func166, by kernel_rfl, by kernel_rfl, by kernel_rfl, by kernel_rfl⟩
instance : IsFn Try.prog 167 Try.f167 := ⟨Try.func167⟩
instance : HasBody Try.prog 167 := ⟨_, _, Try.func167, rfl, of_decide_eq_true (by kernel_rfl)⟩
instance : IsFn Try.prog 168 Try.f168 := ⟨Try.func168⟩
instance : HasBody Try.prog 168 := ⟨_, _, Try.func168, rfl, of_decide_eq_true (by kernel_rfl)⟩
instance : ExtFn Try.prog 169 (fun _ => do mark .disable; pure Extern.Race.none_) := ⟨_, Try.func169, by kernel_rfl, by kernel_rfl, by kernel_rfl, by kernel_rfl⟩
instance : ExtFn Try.prog 170 (Extern.Atomic.casT (.int .i32)) := ⟨_, Try.func170, by kernel_rfl, by kernel_rfl, by kernel_rfl, by kernel_rfl⟩
instance : ExtFn Try.prog 171 (fun _ => do mark .enable; pure Extern.Race.none_) := ⟨_, Try.func171, by kernel_rfl, by kernel_rfl, by kernel_rfl, by kernel_rfl⟩
instance : ExtFn Try.prog 172 (Extern.Race.marked .acquire) := ⟨_, Try.func172, by kernel_rfl, by kernel_rfl, by kernel_rfl, by kernel_rfl⟩
instance : IsFn Try.prog 173 Try.f173 := ⟨Try.func173⟩
instance : HasBody Try.prog 173 := ⟨_, _, Try.func173, rfl, of_decide_eq_true (by kernel_rfl)⟩
instance : ExtFn Try.prog 174 (Extern.Race.marked .releaseMerge) := ⟨_, Try.func174, by kernel_rfl, by kernel_rfl, by kernel_rfl, by kernel_rfl⟩
instance : ExtFn Try.prog 175 (Extern.Atomic.update (Op.intArith .add) .i32 true) := ⟨_, Try.func175, by kernel_rfl, by kernel_rfl, by kernel_rfl, by kernel_rfl⟩
instance : IsFn Try.prog 176 Try.f176 := ⟨Try.func176⟩
instance : HasBody Try.prog 176 := ⟨_, _, Try.func176, rfl, of_decide_eq_true (by kernel_rfl)⟩
end Go.Proofs.Ytkppboglffdmnaa
