/- STATS: what is asked of an event's kind. -/
import Derived.Test.YtejehjlegfpgbaaStatsRead
namespace Go.Proofs.Ytejehjlegfpgbaa
open Go Go.RowKit

theorem ta_published (v : Value) (w : World) : (Instr.typeAssert (.iface 63 v) 60 63 true).run Try.prog w = .ok (.tuple #[v, .bool true]) w := by kernel_rfl
theorem ta_queued_published (v : Value) (w : World) : (Instr.typeAssert (.iface 65 v) 60 63 true).run Try.prog w = .ok (.tuple #[.agg #[.int .i64 0, .int .i64 0], .bool false]) w := by kernel_rfl
theorem ta_queued (v : Value) (w : World) : (Instr.typeAssert (.iface 65 v) 60 65 true).run Try.prog w = .ok (.tuple #[v, .bool true]) w := by kernel_rfl
theorem ta_refused_published (v : Value) (w : World) : (Instr.typeAssert (.iface 68 v) 60 63 true).run Try.prog w = .ok (.tuple #[.agg #[.int .i64 0, .int .i64 0], .bool false]) w := by kernel_rfl
theorem ta_refused_queued (v : Value) (w : World) : (Instr.typeAssert (.iface 68 v) 60 65 true).run Try.prog w = .ok (.tuple #[.agg #[.int .i64 0], .bool false]) w := by kernel_rfl
theorem ta_refused (v : Value) (w : World) : (Instr.typeAssert (.iface 68 v) 60 68 true).run Try.prog w = .ok (.tuple #[v, .bool true]) w := by kernel_rfl
theorem ta_dropped_published (v : Value) (w : World) : (Instr.typeAssert (.iface 69 v) 60 63 true).run Try.prog w = .ok (.tuple #[.agg #[.int .i64 0, .int .i64 0], .bool false]) w := by kernel_rfl
theorem ta_dropped_queued (v : Value) (w : World) : (Instr.typeAssert (.iface 69 v) 60 65 true).run Try.prog w = .ok (.tuple #[.agg #[.int .i64 0], .bool false]) w := by kernel_rfl
theorem ta_dropped_refused (v : Value) (w : World) : (Instr.typeAssert (.iface 69 v) 60 68 true).run Try.prog w = .ok (.tuple #[.agg #[.int .i64 0], .bool false]) w := by kernel_rfl
theorem ta_dropped (v : Value) (w : World) : (Instr.typeAssert (.iface 69 v) 60 69 true).run Try.prog w = .ok (.tuple #[v, .bool true]) w := by kernel_rfl
theorem ta_late_published (v : Value) (w : World) : (Instr.typeAssert (.iface 70 v) 60 63 true).run Try.prog w = .ok (.tuple #[.agg #[.int .i64 0, .int .i64 0], .bool false]) w := by kernel_rfl
theorem ta_late_queued (v : Value) (w : World) : (Instr.typeAssert (.iface 70 v) 60 65 true).run Try.prog w = .ok (.tuple #[.agg #[.int .i64 0], .bool false]) w := by kernel_rfl
theorem ta_late_refused (v : Value) (w : World) : (Instr.typeAssert (.iface 70 v) 60 68 true).run Try.prog w = .ok (.tuple #[.agg #[.int .i64 0], .bool false]) w := by kernel_rfl
theorem ta_late_dropped (v : Value) (w : World) : (Instr.typeAssert (.iface 70 v) 60 69 true).run Try.prog w = .ok (.tuple #[.agg #[.int .i64 0], .bool false]) w := by kernel_rfl
theorem ta_late (v : Value) (w : World) : (Instr.typeAssert (.iface 70 v) 60 70 true).run Try.prog w = .ok (.tuple #[v, .bool true]) w := by kernel_rfl
theorem ta_done_published (v : Value) (w : World) : (Instr.typeAssert (.iface 72 v) 60 63 true).run Try.prog w = .ok (.tuple #[.agg #[.int .i64 0, .int .i64 0], .bool false]) w := by kernel_rfl
theorem ta_done_queued (v : Value) (w : World) : (Instr.typeAssert (.iface 72 v) 60 65 true).run Try.prog w = .ok (.tuple #[.agg #[.int .i64 0], .bool false]) w := by kernel_rfl
theorem ta_done_refused (v : Value) (w : World) : (Instr.typeAssert (.iface 72 v) 60 68 true).run Try.prog w = .ok (.tuple #[.agg #[.int .i64 0], .bool false]) w := by kernel_rfl
theorem ta_done_dropped (v : Value) (w : World) : (Instr.typeAssert (.iface 72 v) 60 69 true).run Try.prog w = .ok (.tuple #[.agg #[.int .i64 0], .bool false]) w := by kernel_rfl
theorem ta_done_late (v : Value) (w : World) : (Instr.typeAssert (.iface 72 v) 60 70 true).run Try.prog w = .ok (.tuple #[.agg #[.int .i64 0], .bool false]) w := by kernel_rfl
theorem ta_done (v : Value) (w : World) : (Instr.typeAssert (.iface 72 v) 60 72 true).run Try.prog w = .ok (.tuple #[v, .bool true]) w := by kernel_rfl
theorem ta_nil_published (w : World) : (Instr.typeAssert .nilIface 60 63 true).run Try.prog w = .ok (.tuple #[.agg #[.int .i64 0, .int .i64 0], .bool false]) w := by kernel_rfl
theorem ta_nil_queued (w : World) : (Instr.typeAssert .nilIface 60 65 true).run Try.prog w = .ok (.tuple #[.agg #[.int .i64 0], .bool false]) w := by kernel_rfl
theorem ta_nil_refused (w : World) : (Instr.typeAssert .nilIface 60 68 true).run Try.prog w = .ok (.tuple #[.agg #[.int .i64 0], .bool false]) w := by kernel_rfl
theorem ta_nil_dropped (w : World) : (Instr.typeAssert .nilIface 60 69 true).run Try.prog w = .ok (.tuple #[.agg #[.int .i64 0], .bool false]) w := by kernel_rfl
theorem ta_nil_late (w : World) : (Instr.typeAssert .nilIface 60 70 true).run Try.prog w = .ok (.tuple #[.agg #[.int .i64 0], .bool false]) w := by kernel_rfl
theorem ta_nil_done (w : World) : (Instr.typeAssert .nilIface 60 72 true).run Try.prog w = .ok (.tuple #[.agg #[.int .i64 0, .int .i64 0, .int .i64 0, .int .i64 0], .bool false]) w := by kernel_rfl
end Go.Proofs.Ytejehjlegfpgbaa
