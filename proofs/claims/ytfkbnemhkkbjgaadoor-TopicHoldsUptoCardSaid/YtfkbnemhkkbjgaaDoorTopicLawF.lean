/- the law TopicHolds, walked: one theorem a way. -/
import Derived.Test.YtfkbnemhkkbjgaaDoorTopicLawD
import Derived.Test.YtfkbnemhkkbjgaaDoorTopicHoldsPlainB
namespace Go.Proofs.YtfkbnemhkkbjgaaDoor
open Go Go.RowKit

/-- a call that answers a bool and makes memory alone -/
def BC (k : Nat) (args : Array Value) (r : Bool) : Prop := ∀ w, Tabs w → Calls Tryd.prog k args w fun e w' => e = .returned (.bool r) ∧ Below w.heap.size w w'

set_option maxHeartbeats 2000000 in
theorem topicHolds_a (f g h n : ByteArray) (w : World) (hT : Tabs w)
    (k0 : BC 13 #[.string f] false) :
    Calls Tryd.prog 8 #[.string f, .string g, .string h, .string n] w fun e w' => e = .returned (.bool true) ∧ Below w.heap.size w w' := by
  go_enter Tryd.func8, Tryd.ntmps8
  go_wp2_with fail
  refine (k0 _ hT).mono ?_
  rintro e w1 ⟨rfl, hb1⟩
  have hT1 := hT.below hb1
  go_wp2_with fail
  refine (awake_any _ hT1).mono ?_
  rintro e w2 ⟨rfl, hb2⟩
  go_wp2
  go_ret
  exact ⟨rfl, hb1.trans (hb2.mono hb1.size)⟩

set_option maxHeartbeats 2000000 in
theorem topicHolds_b (f g h n : ByteArray) (w : World) (hT : Tabs w)
    (k0 : BC 13 #[.string f] true)
    (k1 : BC 13 #[.string g] false) :
    Calls Tryd.prog 8 #[.string f, .string g, .string h, .string n] w fun e w' => e = .returned (.bool true) ∧ Below w.heap.size w w' := by
  go_enter Tryd.func8, Tryd.ntmps8
  go_wp2_with fail
  refine (k0 _ hT).mono ?_
  rintro e w1 ⟨rfl, hb1⟩
  have hT1 := hT.below hb1
  go_wp2_with fail
  refine (k1 _ hT1).mono ?_
  rintro e w2 ⟨rfl, hb2⟩
  have hT2 := hT1.below hb2
  have hc2 := hb1.trans (hb2.mono hb1.size)
  go_wp2_with fail
  refine (awake_any _ hT2).mono ?_
  rintro e w3 ⟨rfl, hb3⟩
  go_wp2
  go_ret
  exact ⟨rfl, hc2.trans (hb3.mono hc2.size)⟩

set_option maxHeartbeats 2000000 in
theorem topicHolds_c (f g h n : ByteArray) (w : World) (hT : Tabs w)
    (k0 : BC 13 #[.string f] true)
    (k1 : BC 13 #[.string g] true)
    (k2 : BC 13 #[.string h] false) :
    Calls Tryd.prog 8 #[.string f, .string g, .string h, .string n] w fun e w' => e = .returned (.bool true) ∧ Below w.heap.size w w' := by
  go_enter Tryd.func8, Tryd.ntmps8
  go_wp2_with fail
  refine (k0 _ hT).mono ?_
  rintro e w1 ⟨rfl, hb1⟩
  have hT1 := hT.below hb1
  go_wp2_with fail
  refine (k1 _ hT1).mono ?_
  rintro e w2 ⟨rfl, hb2⟩
  have hT2 := hT1.below hb2
  have hc2 := hb1.trans (hb2.mono hb1.size)
  go_wp2_with fail
  refine (k2 _ hT2).mono ?_
  rintro e w3 ⟨rfl, hb3⟩
  have hT3 := hT2.below hb3
  have hc3 := hc2.trans (hb3.mono hc2.size)
  go_wp2_with fail
  refine (awake_any _ hT3).mono ?_
  rintro e w4 ⟨rfl, hb4⟩
  go_wp2
  go_ret
  exact ⟨rfl, hc3.trans (hb4.mono hc3.size)⟩

set_option maxHeartbeats 2000000 in
theorem topicHolds_d (f g h n : ByteArray) (w : World) (hT : Tabs w) (m : Bool)
    (k0 : BC 13 #[.string f] true)
    (k1 : BC 13 #[.string g] true)
    (k2 : BC 13 #[.string h] true)
    (k3 : BC 19 #[.string f, .string f] true)
    (k4 : BC 19 #[.string f, .string g] false)
    (k5 : BC 23 #[.string f, .string g] m)
    (k6 : BC 23 #[.string g, .string f] m) :
    Calls Tryd.prog 8 #[.string f, .string g, .string h, .string n] w fun e w' => e = .returned (.bool true) ∧ Below w.heap.size w w' := by
  have hE : (m == m) = true := by simp
  go_enter Tryd.func8, Tryd.ntmps8
  go_wp2_with fail
  refine (k0 _ hT).mono ?_
  rintro e w1 ⟨rfl, hb1⟩
  have hT1 := hT.below hb1
  go_wp2_with fail
  refine (k1 _ hT1).mono ?_
  rintro e w2 ⟨rfl, hb2⟩
  have hT2 := hT1.below hb2
  have hc2 := hb1.trans (hb2.mono hb1.size)
  go_wp2_with fail
  refine (k2 _ hT2).mono ?_
  rintro e w3 ⟨rfl, hb3⟩
  have hT3 := hT2.below hb3
  have hc3 := hc2.trans (hb3.mono hc2.size)
  go_wp2_with fail
  refine (k3 _ hT3).mono ?_
  rintro e w4 ⟨rfl, hb4⟩
  have hT4 := hT3.below hb4
  have hc4 := hc3.trans (hb4.mono hc3.size)
  go_wp2_with fail
  refine (k4 _ hT4).mono ?_
  rintro e w5 ⟨rfl, hb5⟩
  have hT5 := hT4.below hb5
  have hc5 := hc4.trans (hb5.mono hc4.size)
  go_wp2_with fail
  refine (k5 _ hT5).mono ?_
  rintro e w6 ⟨rfl, hb6⟩
  have hT6 := hT5.below hb6
  have hc6 := hc5.trans (hb6.mono hc5.size)
  go_wp2_with fail
  refine (k6 _ hT6).mono ?_
  rintro e w7 ⟨rfl, hb7⟩
  have hT7 := hT6.below hb7
  have hc7 := hc6.trans (hb7.mono hc6.size)
  go_wp2_with fail
  refine (awake_any _ hT7).mono ?_
  rintro e w8 ⟨rfl, hb8⟩
  go_wp2
  go_ret
  exact ⟨rfl, hc7.trans (hb8.mono hc7.size)⟩

set_option maxHeartbeats 2000000 in
theorem topicHolds_e000 (f g h n : ByteArray) (w : World) (hT : Tabs w)
    (k0 : BC 13 #[.string f] true)
    (k1 : BC 13 #[.string g] true)
    (k2 : BC 13 #[.string h] true)
    (k3 : BC 19 #[.string f, .string f] true)
    (k4 : BC 19 #[.string f, .string g] true)
    (k5 : BC 23 #[.string f, .string g] true)
    (k6 : BC 17 #[.string g, .string n] false)
    (k7 : BC 19 #[.string g, .string h] false)
    (k8 : BC 23 #[.string g, .string h] false)
    (k9 : BC 23 #[.string g, .string f] true) :
    Calls Tryd.prog 8 #[.string f, .string g, .string h, .string n] w fun e w' => e = .returned (.bool true) ∧ Below w.heap.size w w' := by
  go_enter Tryd.func8, Tryd.ntmps8
  go_wp2_with fail
  refine (k0 _ hT).mono ?_
  rintro e w1 ⟨rfl, hb1⟩
  have hT1 := hT.below hb1
  go_wp2_with fail
  refine (k1 _ hT1).mono ?_
  rintro e w2 ⟨rfl, hb2⟩
  have hT2 := hT1.below hb2
  have hc2 := hb1.trans (hb2.mono hb1.size)
  go_wp2_with fail
  refine (k2 _ hT2).mono ?_
  rintro e w3 ⟨rfl, hb3⟩
  have hT3 := hT2.below hb3
  have hc3 := hc2.trans (hb3.mono hc2.size)
  go_wp2_with fail
  refine (k3 _ hT3).mono ?_
  rintro e w4 ⟨rfl, hb4⟩
  have hT4 := hT3.below hb4
  have hc4 := hc3.trans (hb4.mono hc3.size)
  go_wp2_with fail
  refine (k4 _ hT4).mono ?_
  rintro e w5 ⟨rfl, hb5⟩
  have hT5 := hT4.below hb5
  have hc5 := hc4.trans (hb5.mono hc4.size)
  go_wp2_with fail
  refine (k5 _ hT5).mono ?_
  rintro e w6 ⟨rfl, hb6⟩
  have hT6 := hT5.below hb6
  have hc6 := hc5.trans (hb6.mono hc5.size)
  go_wp2_with fail
  refine (k6 _ hT6).mono ?_
  rintro e w7 ⟨rfl, hb7⟩
  have hT7 := hT6.below hb7
  have hc7 := hc6.trans (hb7.mono hc6.size)
  go_wp2_with fail
  refine (k7 _ hT7).mono ?_
  rintro e w8 ⟨rfl, hb8⟩
  have hT8 := hT7.below hb8
  have hc8 := hc7.trans (hb8.mono hc7.size)
  go_wp2_with fail
  refine (k8 _ hT8).mono ?_
  rintro e w9 ⟨rfl, hb9⟩
  have hT9 := hT8.below hb9
  have hc9 := hc8.trans (hb9.mono hc8.size)
  go_wp2_with fail
  refine (k5 _ hT9).mono ?_
  rintro e w10 ⟨rfl, hb10⟩
  have hT10 := hT9.below hb10
  have hc10 := hc9.trans (hb10.mono hc9.size)
  go_wp2_with fail
  refine (k9 _ hT10).mono ?_
  rintro e w11 ⟨rfl, hb11⟩
  have hT11 := hT10.below hb11
  have hc11 := hc10.trans (hb11.mono hc10.size)
  go_wp2_with fail
  refine (awake_any _ hT11).mono ?_
  rintro e w12 ⟨rfl, hb12⟩
  go_wp2
  go_ret
  exact ⟨rfl, hc11.trans (hb12.mono hc11.size)⟩

set_option maxHeartbeats 2000000 in
theorem topicHolds_e001 (f g h n : ByteArray) (w : World) (hT : Tabs w)
    (k0 : BC 13 #[.string f] true)
    (k1 : BC 13 #[.string g] true)
    (k2 : BC 13 #[.string h] true)
    (k3 : BC 19 #[.string f, .string f] true)
    (k4 : BC 19 #[.string f, .string g] true)
    (k5 : BC 23 #[.string f, .string g] true)
    (k6 : BC 17 #[.string g, .string n] false)
    (k7 : BC 19 #[.string g, .string h] false)
    (k8 : BC 23 #[.string g, .string h] true)
    (k9 : BC 23 #[.string f, .string h] true)
    (k10 : BC 23 #[.string g, .string f] true) :
    Calls Tryd.prog 8 #[.string f, .string g, .string h, .string n] w fun e w' => e = .returned (.bool true) ∧ Below w.heap.size w w' := by
  go_enter Tryd.func8, Tryd.ntmps8
  go_wp2_with fail
  refine (k0 _ hT).mono ?_
  rintro e w1 ⟨rfl, hb1⟩
  have hT1 := hT.below hb1
  go_wp2_with fail
  refine (k1 _ hT1).mono ?_
  rintro e w2 ⟨rfl, hb2⟩
  have hT2 := hT1.below hb2
  have hc2 := hb1.trans (hb2.mono hb1.size)
  go_wp2_with fail
  refine (k2 _ hT2).mono ?_
  rintro e w3 ⟨rfl, hb3⟩
  have hT3 := hT2.below hb3
  have hc3 := hc2.trans (hb3.mono hc2.size)
  go_wp2_with fail
  refine (k3 _ hT3).mono ?_
  rintro e w4 ⟨rfl, hb4⟩
  have hT4 := hT3.below hb4
  have hc4 := hc3.trans (hb4.mono hc3.size)
  go_wp2_with fail
  refine (k4 _ hT4).mono ?_
  rintro e w5 ⟨rfl, hb5⟩
  have hT5 := hT4.below hb5
  have hc5 := hc4.trans (hb5.mono hc4.size)
  go_wp2_with fail
  refine (k5 _ hT5).mono ?_
  rintro e w6 ⟨rfl, hb6⟩
  have hT6 := hT5.below hb6
  have hc6 := hc5.trans (hb6.mono hc5.size)
  go_wp2_with fail
  refine (k6 _ hT6).mono ?_
  rintro e w7 ⟨rfl, hb7⟩
  have hT7 := hT6.below hb7
  have hc7 := hc6.trans (hb7.mono hc6.size)
  go_wp2_with fail
  refine (k7 _ hT7).mono ?_
  rintro e w8 ⟨rfl, hb8⟩
  have hT8 := hT7.below hb8
  have hc8 := hc7.trans (hb8.mono hc7.size)
  go_wp2_with fail
  refine (k8 _ hT8).mono ?_
  rintro e w9 ⟨rfl, hb9⟩
  have hT9 := hT8.below hb9
  have hc9 := hc8.trans (hb9.mono hc8.size)
  go_wp2_with fail
  refine (k9 _ hT9).mono ?_
  rintro e w10 ⟨rfl, hb10⟩
  have hT10 := hT9.below hb10
  have hc10 := hc9.trans (hb10.mono hc9.size)
  go_wp2_with fail
  refine (k5 _ hT10).mono ?_
  rintro e w11 ⟨rfl, hb11⟩
  have hT11 := hT10.below hb11
  have hc11 := hc10.trans (hb11.mono hc10.size)
  go_wp2_with fail
  refine (k10 _ hT11).mono ?_
  rintro e w12 ⟨rfl, hb12⟩
  have hT12 := hT11.below hb12
  have hc12 := hc11.trans (hb12.mono hc11.size)
  go_wp2_with fail
  refine (awake_any _ hT12).mono ?_
  rintro e w13 ⟨rfl, hb13⟩
  go_wp2
  go_ret
  exact ⟨rfl, hc12.trans (hb13.mono hc12.size)⟩

set_option maxHeartbeats 2000000 in
theorem topicHolds_e010 (f g h n : ByteArray) (w : World) (hT : Tabs w)
    (k0 : BC 13 #[.string f] true)
    (k1 : BC 13 #[.string g] true)
    (k2 : BC 13 #[.string h] true)
    (k3 : BC 19 #[.string f, .string f] true)
    (k4 : BC 19 #[.string f, .string g] true)
    (k5 : BC 23 #[.string f, .string g] true)
    (k6 : BC 17 #[.string g, .string n] false)
    (k7 : BC 19 #[.string g, .string h] true)
    (k8 : BC 19 #[.string f, .string h] true)
    (k9 : BC 23 #[.string g, .string h] false)
    (k10 : BC 23 #[.string g, .string f] true) :
    Calls Tryd.prog 8 #[.string f, .string g, .string h, .string n] w fun e w' => e = .returned (.bool true) ∧ Below w.heap.size w w' := by
  go_enter Tryd.func8, Tryd.ntmps8
  go_wp2_with fail
  refine (k0 _ hT).mono ?_
  rintro e w1 ⟨rfl, hb1⟩
  have hT1 := hT.below hb1
  go_wp2_with fail
  refine (k1 _ hT1).mono ?_
  rintro e w2 ⟨rfl, hb2⟩
  have hT2 := hT1.below hb2
  have hc2 := hb1.trans (hb2.mono hb1.size)
  go_wp2_with fail
  refine (k2 _ hT2).mono ?_
  rintro e w3 ⟨rfl, hb3⟩
  have hT3 := hT2.below hb3
  have hc3 := hc2.trans (hb3.mono hc2.size)
  go_wp2_with fail
  refine (k3 _ hT3).mono ?_
  rintro e w4 ⟨rfl, hb4⟩
  have hT4 := hT3.below hb4
  have hc4 := hc3.trans (hb4.mono hc3.size)
  go_wp2_with fail
  refine (k4 _ hT4).mono ?_
  rintro e w5 ⟨rfl, hb5⟩
  have hT5 := hT4.below hb5
  have hc5 := hc4.trans (hb5.mono hc4.size)
  go_wp2_with fail
  refine (k5 _ hT5).mono ?_
  rintro e w6 ⟨rfl, hb6⟩
  have hT6 := hT5.below hb6
  have hc6 := hc5.trans (hb6.mono hc5.size)
  go_wp2_with fail
  refine (k6 _ hT6).mono ?_
  rintro e w7 ⟨rfl, hb7⟩
  have hT7 := hT6.below hb7
  have hc7 := hc6.trans (hb7.mono hc6.size)
  go_wp2_with fail
  refine (k7 _ hT7).mono ?_
  rintro e w8 ⟨rfl, hb8⟩
  have hT8 := hT7.below hb8
  have hc8 := hc7.trans (hb8.mono hc7.size)
  go_wp2_with fail
  refine (k8 _ hT8).mono ?_
  rintro e w9 ⟨rfl, hb9⟩
  have hT9 := hT8.below hb9
  have hc9 := hc8.trans (hb9.mono hc8.size)
  go_wp2_with fail
  refine (k9 _ hT9).mono ?_
  rintro e w10 ⟨rfl, hb10⟩
  have hT10 := hT9.below hb10
  have hc10 := hc9.trans (hb10.mono hc9.size)
  go_wp2_with fail
  refine (k5 _ hT10).mono ?_
  rintro e w11 ⟨rfl, hb11⟩
  have hT11 := hT10.below hb11
  have hc11 := hc10.trans (hb11.mono hc10.size)
  go_wp2_with fail
  refine (k10 _ hT11).mono ?_
  rintro e w12 ⟨rfl, hb12⟩
  have hT12 := hT11.below hb12
  have hc12 := hc11.trans (hb12.mono hc11.size)
  go_wp2_with fail
  refine (awake_any _ hT12).mono ?_
  rintro e w13 ⟨rfl, hb13⟩
  go_wp2
  go_ret
  exact ⟨rfl, hc12.trans (hb13.mono hc12.size)⟩

set_option maxHeartbeats 2000000 in
theorem topicHolds_e011 (f g h n : ByteArray) (w : World) (hT : Tabs w)
    (k0 : BC 13 #[.string f] true)
    (k1 : BC 13 #[.string g] true)
    (k2 : BC 13 #[.string h] true)
    (k3 : BC 19 #[.string f, .string f] true)
    (k4 : BC 19 #[.string f, .string g] true)
    (k5 : BC 23 #[.string f, .string g] true)
    (k6 : BC 17 #[.string g, .string n] false)
    (k7 : BC 19 #[.string g, .string h] true)
    (k8 : BC 19 #[.string f, .string h] true)
    (k9 : BC 23 #[.string g, .string h] true)
    (k10 : BC 23 #[.string f, .string h] true)
    (k11 : BC 23 #[.string g, .string f] true) :
    Calls Tryd.prog 8 #[.string f, .string g, .string h, .string n] w fun e w' => e = .returned (.bool true) ∧ Below w.heap.size w w' := by
  go_enter Tryd.func8, Tryd.ntmps8
  go_wp2_with fail
  refine (k0 _ hT).mono ?_
  rintro e w1 ⟨rfl, hb1⟩
  have hT1 := hT.below hb1
  go_wp2_with fail
  refine (k1 _ hT1).mono ?_
  rintro e w2 ⟨rfl, hb2⟩
  have hT2 := hT1.below hb2
  have hc2 := hb1.trans (hb2.mono hb1.size)
  go_wp2_with fail
  refine (k2 _ hT2).mono ?_
  rintro e w3 ⟨rfl, hb3⟩
  have hT3 := hT2.below hb3
  have hc3 := hc2.trans (hb3.mono hc2.size)
  go_wp2_with fail
  refine (k3 _ hT3).mono ?_
  rintro e w4 ⟨rfl, hb4⟩
  have hT4 := hT3.below hb4
  have hc4 := hc3.trans (hb4.mono hc3.size)
  go_wp2_with fail
  refine (k4 _ hT4).mono ?_
  rintro e w5 ⟨rfl, hb5⟩
  have hT5 := hT4.below hb5
  have hc5 := hc4.trans (hb5.mono hc4.size)
  go_wp2_with fail
  refine (k5 _ hT5).mono ?_
  rintro e w6 ⟨rfl, hb6⟩
  have hT6 := hT5.below hb6
  have hc6 := hc5.trans (hb6.mono hc5.size)
  go_wp2_with fail
  refine (k6 _ hT6).mono ?_
  rintro e w7 ⟨rfl, hb7⟩
  have hT7 := hT6.below hb7
  have hc7 := hc6.trans (hb7.mono hc6.size)
  go_wp2_with fail
  refine (k7 _ hT7).mono ?_
  rintro e w8 ⟨rfl, hb8⟩
  have hT8 := hT7.below hb8
  have hc8 := hc7.trans (hb8.mono hc7.size)
  go_wp2_with fail
  refine (k8 _ hT8).mono ?_
  rintro e w9 ⟨rfl, hb9⟩
  have hT9 := hT8.below hb9
  have hc9 := hc8.trans (hb9.mono hc8.size)
  go_wp2_with fail
  refine (k9 _ hT9).mono ?_
  rintro e w10 ⟨rfl, hb10⟩
  have hT10 := hT9.below hb10
  have hc10 := hc9.trans (hb10.mono hc9.size)
  go_wp2_with fail
  refine (k10 _ hT10).mono ?_
  rintro e w11 ⟨rfl, hb11⟩
  have hT11 := hT10.below hb11
  have hc11 := hc10.trans (hb11.mono hc10.size)
  go_wp2_with fail
  refine (k5 _ hT11).mono ?_
  rintro e w12 ⟨rfl, hb12⟩
  have hT12 := hT11.below hb12
  have hc12 := hc11.trans (hb12.mono hc11.size)
  go_wp2_with fail
  refine (k11 _ hT12).mono ?_
  rintro e w13 ⟨rfl, hb13⟩
  have hT13 := hT12.below hb13
  have hc13 := hc12.trans (hb13.mono hc12.size)
  go_wp2_with fail
  refine (awake_any _ hT13).mono ?_
  rintro e w14 ⟨rfl, hb14⟩
  go_wp2
  go_ret
  exact ⟨rfl, hc13.trans (hb14.mono hc13.size)⟩

set_option maxHeartbeats 2000000 in
theorem topicHolds_e100 (f g h n : ByteArray) (w : World) (hT : Tabs w)
    (k0 : BC 13 #[.string f] true)
    (k1 : BC 13 #[.string g] true)
    (k2 : BC 13 #[.string h] true)
    (k3 : BC 19 #[.string f, .string f] true)
    (k4 : BC 19 #[.string f, .string g] true)
    (k5 : BC 23 #[.string f, .string g] true)
    (k6 : BC 17 #[.string g, .string n] true)
    (k7 : BC 17 #[.string f, .string n] true)
    (k8 : BC 19 #[.string g, .string h] false)
    (k9 : BC 23 #[.string g, .string h] false)
    (k10 : BC 23 #[.string g, .string f] true) :
    Calls Tryd.prog 8 #[.string f, .string g, .string h, .string n] w fun e w' => e = .returned (.bool true) ∧ Below w.heap.size w w' := by
  go_enter Tryd.func8, Tryd.ntmps8
  go_wp2_with fail
  refine (k0 _ hT).mono ?_
  rintro e w1 ⟨rfl, hb1⟩
  have hT1 := hT.below hb1
  go_wp2_with fail
  refine (k1 _ hT1).mono ?_
  rintro e w2 ⟨rfl, hb2⟩
  have hT2 := hT1.below hb2
  have hc2 := hb1.trans (hb2.mono hb1.size)
  go_wp2_with fail
  refine (k2 _ hT2).mono ?_
  rintro e w3 ⟨rfl, hb3⟩
  have hT3 := hT2.below hb3
  have hc3 := hc2.trans (hb3.mono hc2.size)
  go_wp2_with fail
  refine (k3 _ hT3).mono ?_
  rintro e w4 ⟨rfl, hb4⟩
  have hT4 := hT3.below hb4
  have hc4 := hc3.trans (hb4.mono hc3.size)
  go_wp2_with fail
  refine (k4 _ hT4).mono ?_
  rintro e w5 ⟨rfl, hb5⟩
  have hT5 := hT4.below hb5
  have hc5 := hc4.trans (hb5.mono hc4.size)
  go_wp2_with fail
  refine (k5 _ hT5).mono ?_
  rintro e w6 ⟨rfl, hb6⟩
  have hT6 := hT5.below hb6
  have hc6 := hc5.trans (hb6.mono hc5.size)
  go_wp2_with fail
  refine (k6 _ hT6).mono ?_
  rintro e w7 ⟨rfl, hb7⟩
  have hT7 := hT6.below hb7
  have hc7 := hc6.trans (hb7.mono hc6.size)
  go_wp2_with fail
  refine (k7 _ hT7).mono ?_
  rintro e w8 ⟨rfl, hb8⟩
  have hT8 := hT7.below hb8
  have hc8 := hc7.trans (hb8.mono hc7.size)
  go_wp2_with fail
  refine (k8 _ hT8).mono ?_
  rintro e w9 ⟨rfl, hb9⟩
  have hT9 := hT8.below hb9
  have hc9 := hc8.trans (hb9.mono hc8.size)
  go_wp2_with fail
  refine (k9 _ hT9).mono ?_
  rintro e w10 ⟨rfl, hb10⟩
  have hT10 := hT9.below hb10
  have hc10 := hc9.trans (hb10.mono hc9.size)
  go_wp2_with fail
  refine (k5 _ hT10).mono ?_
  rintro e w11 ⟨rfl, hb11⟩
  have hT11 := hT10.below hb11
  have hc11 := hc10.trans (hb11.mono hc10.size)
  go_wp2_with fail
  refine (k10 _ hT11).mono ?_
  rintro e w12 ⟨rfl, hb12⟩
  have hT12 := hT11.below hb12
  have hc12 := hc11.trans (hb12.mono hc11.size)
  go_wp2_with fail
  refine (awake_any _ hT12).mono ?_
  rintro e w13 ⟨rfl, hb13⟩
  go_wp2
  go_ret
  exact ⟨rfl, hc12.trans (hb13.mono hc12.size)⟩

set_option maxHeartbeats 2000000 in
theorem topicHolds_e101 (f g h n : ByteArray) (w : World) (hT : Tabs w)
    (k0 : BC 13 #[.string f] true)
    (k1 : BC 13 #[.string g] true)
    (k2 : BC 13 #[.string h] true)
    (k3 : BC 19 #[.string f, .string f] true)
    (k4 : BC 19 #[.string f, .string g] true)
    (k5 : BC 23 #[.string f, .string g] true)
    (k6 : BC 17 #[.string g, .string n] true)
    (k7 : BC 17 #[.string f, .string n] true)
    (k8 : BC 19 #[.string g, .string h] false)
    (k9 : BC 23 #[.string g, .string h] true)
    (k10 : BC 23 #[.string f, .string h] true)
    (k11 : BC 23 #[.string g, .string f] true) :
    Calls Tryd.prog 8 #[.string f, .string g, .string h, .string n] w fun e w' => e = .returned (.bool true) ∧ Below w.heap.size w w' := by
  go_enter Tryd.func8, Tryd.ntmps8
  go_wp2_with fail
  refine (k0 _ hT).mono ?_
  rintro e w1 ⟨rfl, hb1⟩
  have hT1 := hT.below hb1
  go_wp2_with fail
  refine (k1 _ hT1).mono ?_
  rintro e w2 ⟨rfl, hb2⟩
  have hT2 := hT1.below hb2
  have hc2 := hb1.trans (hb2.mono hb1.size)
  go_wp2_with fail
  refine (k2 _ hT2).mono ?_
  rintro e w3 ⟨rfl, hb3⟩
  have hT3 := hT2.below hb3
  have hc3 := hc2.trans (hb3.mono hc2.size)
  go_wp2_with fail
  refine (k3 _ hT3).mono ?_
  rintro e w4 ⟨rfl, hb4⟩
  have hT4 := hT3.below hb4
  have hc4 := hc3.trans (hb4.mono hc3.size)
  go_wp2_with fail
  refine (k4 _ hT4).mono ?_
  rintro e w5 ⟨rfl, hb5⟩
  have hT5 := hT4.below hb5
  have hc5 := hc4.trans (hb5.mono hc4.size)
  go_wp2_with fail
  refine (k5 _ hT5).mono ?_
  rintro e w6 ⟨rfl, hb6⟩
  have hT6 := hT5.below hb6
  have hc6 := hc5.trans (hb6.mono hc5.size)
  go_wp2_with fail
  refine (k6 _ hT6).mono ?_
  rintro e w7 ⟨rfl, hb7⟩
  have hT7 := hT6.below hb7
  have hc7 := hc6.trans (hb7.mono hc6.size)
  go_wp2_with fail
  refine (k7 _ hT7).mono ?_
  rintro e w8 ⟨rfl, hb8⟩
  have hT8 := hT7.below hb8
  have hc8 := hc7.trans (hb8.mono hc7.size)
  go_wp2_with fail
  refine (k8 _ hT8).mono ?_
  rintro e w9 ⟨rfl, hb9⟩
  have hT9 := hT8.below hb9
  have hc9 := hc8.trans (hb9.mono hc8.size)
  go_wp2_with fail
  refine (k9 _ hT9).mono ?_
  rintro e w10 ⟨rfl, hb10⟩
  have hT10 := hT9.below hb10
  have hc10 := hc9.trans (hb10.mono hc9.size)
  go_wp2_with fail
  refine (k10 _ hT10).mono ?_
  rintro e w11 ⟨rfl, hb11⟩
  have hT11 := hT10.below hb11
  have hc11 := hc10.trans (hb11.mono hc10.size)
  go_wp2_with fail
  refine (k5 _ hT11).mono ?_
  rintro e w12 ⟨rfl, hb12⟩
  have hT12 := hT11.below hb12
  have hc12 := hc11.trans (hb12.mono hc11.size)
  go_wp2_with fail
  refine (k11 _ hT12).mono ?_
  rintro e w13 ⟨rfl, hb13⟩
  have hT13 := hT12.below hb13
  have hc13 := hc12.trans (hb13.mono hc12.size)
  go_wp2_with fail
  refine (awake_any _ hT13).mono ?_
  rintro e w14 ⟨rfl, hb14⟩
  go_wp2
  go_ret
  exact ⟨rfl, hc13.trans (hb14.mono hc13.size)⟩

set_option maxHeartbeats 2000000 in
theorem topicHolds_e110 (f g h n : ByteArray) (w : World) (hT : Tabs w)
    (k0 : BC 13 #[.string f] true)
    (k1 : BC 13 #[.string g] true)
    (k2 : BC 13 #[.string h] true)
    (k3 : BC 19 #[.string f, .string f] true)
    (k4 : BC 19 #[.string f, .string g] true)
    (k5 : BC 23 #[.string f, .string g] true)
    (k6 : BC 17 #[.string g, .string n] true)
    (k7 : BC 17 #[.string f, .string n] true)
    (k8 : BC 19 #[.string g, .string h] true)
    (k9 : BC 19 #[.string f, .string h] true)
    (k10 : BC 23 #[.string g, .string h] false)
    (k11 : BC 23 #[.string g, .string f] true) :
    Calls Tryd.prog 8 #[.string f, .string g, .string h, .string n] w fun e w' => e = .returned (.bool true) ∧ Below w.heap.size w w' := by
  go_enter Tryd.func8, Tryd.ntmps8
  go_wp2_with fail
  refine (k0 _ hT).mono ?_
  rintro e w1 ⟨rfl, hb1⟩
  have hT1 := hT.below hb1
  go_wp2_with fail
  refine (k1 _ hT1).mono ?_
  rintro e w2 ⟨rfl, hb2⟩
  have hT2 := hT1.below hb2
  have hc2 := hb1.trans (hb2.mono hb1.size)
  go_wp2_with fail
  refine (k2 _ hT2).mono ?_
  rintro e w3 ⟨rfl, hb3⟩
  have hT3 := hT2.below hb3
  have hc3 := hc2.trans (hb3.mono hc2.size)
  go_wp2_with fail
  refine (k3 _ hT3).mono ?_
  rintro e w4 ⟨rfl, hb4⟩
  have hT4 := hT3.below hb4
  have hc4 := hc3.trans (hb4.mono hc3.size)
  go_wp2_with fail
  refine (k4 _ hT4).mono ?_
  rintro e w5 ⟨rfl, hb5⟩
  have hT5 := hT4.below hb5
  have hc5 := hc4.trans (hb5.mono hc4.size)
  go_wp2_with fail
  refine (k5 _ hT5).mono ?_
  rintro e w6 ⟨rfl, hb6⟩
  have hT6 := hT5.below hb6
  have hc6 := hc5.trans (hb6.mono hc5.size)
  go_wp2_with fail
  refine (k6 _ hT6).mono ?_
  rintro e w7 ⟨rfl, hb7⟩
  have hT7 := hT6.below hb7
  have hc7 := hc6.trans (hb7.mono hc6.size)
  go_wp2_with fail
  refine (k7 _ hT7).mono ?_
  rintro e w8 ⟨rfl, hb8⟩
  have hT8 := hT7.below hb8
  have hc8 := hc7.trans (hb8.mono hc7.size)
  go_wp2_with fail
  refine (k8 _ hT8).mono ?_
  rintro e w9 ⟨rfl, hb9⟩
  have hT9 := hT8.below hb9
  have hc9 := hc8.trans (hb9.mono hc8.size)
  go_wp2_with fail
  refine (k9 _ hT9).mono ?_
  rintro e w10 ⟨rfl, hb10⟩
  have hT10 := hT9.below hb10
  have hc10 := hc9.trans (hb10.mono hc9.size)
  go_wp2_with fail
  refine (k10 _ hT10).mono ?_
  rintro e w11 ⟨rfl, hb11⟩
  have hT11 := hT10.below hb11
  have hc11 := hc10.trans (hb11.mono hc10.size)
  go_wp2_with fail
  refine (k5 _ hT11).mono ?_
  rintro e w12 ⟨rfl, hb12⟩
  have hT12 := hT11.below hb12
  have hc12 := hc11.trans (hb12.mono hc11.size)
  go_wp2_with fail
  refine (k11 _ hT12).mono ?_
  rintro e w13 ⟨rfl, hb13⟩
  have hT13 := hT12.below hb13
  have hc13 := hc12.trans (hb13.mono hc12.size)
  go_wp2_with fail
  refine (awake_any _ hT13).mono ?_
  rintro e w14 ⟨rfl, hb14⟩
  go_wp2
  go_ret
  exact ⟨rfl, hc13.trans (hb14.mono hc13.size)⟩

set_option maxHeartbeats 2000000 in
theorem topicHolds_e111 (f g h n : ByteArray) (w : World) (hT : Tabs w)
    (k0 : BC 13 #[.string f] true)
    (k1 : BC 13 #[.string g] true)
    (k2 : BC 13 #[.string h] true)
    (k3 : BC 19 #[.string f, .string f] true)
    (k4 : BC 19 #[.string f, .string g] true)
    (k5 : BC 23 #[.string f, .string g] true)
    (k6 : BC 17 #[.string g, .string n] true)
    (k7 : BC 17 #[.string f, .string n] true)
    (k8 : BC 19 #[.string g, .string h] true)
    (k9 : BC 19 #[.string f, .string h] true)
    (k10 : BC 23 #[.string g, .string h] true)
    (k11 : BC 23 #[.string f, .string h] true)
    (k12 : BC 23 #[.string g, .string f] true) :
    Calls Tryd.prog 8 #[.string f, .string g, .string h, .string n] w fun e w' => e = .returned (.bool true) ∧ Below w.heap.size w w' := by
  go_enter Tryd.func8, Tryd.ntmps8
  go_wp2_with fail
  refine (k0 _ hT).mono ?_
  rintro e w1 ⟨rfl, hb1⟩
  have hT1 := hT.below hb1
  go_wp2_with fail
  refine (k1 _ hT1).mono ?_
  rintro e w2 ⟨rfl, hb2⟩
  have hT2 := hT1.below hb2
  have hc2 := hb1.trans (hb2.mono hb1.size)
  go_wp2_with fail
  refine (k2 _ hT2).mono ?_
  rintro e w3 ⟨rfl, hb3⟩
  have hT3 := hT2.below hb3
  have hc3 := hc2.trans (hb3.mono hc2.size)
  go_wp2_with fail
  refine (k3 _ hT3).mono ?_
  rintro e w4 ⟨rfl, hb4⟩
  have hT4 := hT3.below hb4
  have hc4 := hc3.trans (hb4.mono hc3.size)
  go_wp2_with fail
  refine (k4 _ hT4).mono ?_
  rintro e w5 ⟨rfl, hb5⟩
  have hT5 := hT4.below hb5
  have hc5 := hc4.trans (hb5.mono hc4.size)
  go_wp2_with fail
  refine (k5 _ hT5).mono ?_
  rintro e w6 ⟨rfl, hb6⟩
  have hT6 := hT5.below hb6
  have hc6 := hc5.trans (hb6.mono hc5.size)
  go_wp2_with fail
  refine (k6 _ hT6).mono ?_
  rintro e w7 ⟨rfl, hb7⟩
  have hT7 := hT6.below hb7
  have hc7 := hc6.trans (hb7.mono hc6.size)
  go_wp2_with fail
  refine (k7 _ hT7).mono ?_
  rintro e w8 ⟨rfl, hb8⟩
  have hT8 := hT7.below hb8
  have hc8 := hc7.trans (hb8.mono hc7.size)
  go_wp2_with fail
  refine (k8 _ hT8).mono ?_
  rintro e w9 ⟨rfl, hb9⟩
  have hT9 := hT8.below hb9
  have hc9 := hc8.trans (hb9.mono hc8.size)
  go_wp2_with fail
  refine (k9 _ hT9).mono ?_
  rintro e w10 ⟨rfl, hb10⟩
  have hT10 := hT9.below hb10
  have hc10 := hc9.trans (hb10.mono hc9.size)
  go_wp2_with fail
  refine (k10 _ hT10).mono ?_
  rintro e w11 ⟨rfl, hb11⟩
  have hT11 := hT10.below hb11
  have hc11 := hc10.trans (hb11.mono hc10.size)
  go_wp2_with fail
  refine (k11 _ hT11).mono ?_
  rintro e w12 ⟨rfl, hb12⟩
  have hT12 := hT11.below hb12
  have hc12 := hc11.trans (hb12.mono hc11.size)
  go_wp2_with fail
  refine (k5 _ hT12).mono ?_
  rintro e w13 ⟨rfl, hb13⟩
  have hT13 := hT12.below hb13
  have hc13 := hc12.trans (hb13.mono hc12.size)
  go_wp2_with fail
  refine (k12 _ hT13).mono ?_
  rintro e w14 ⟨rfl, hb14⟩
  have hT14 := hT13.below hb14
  have hc14 := hc13.trans (hb14.mono hc13.size)
  go_wp2_with fail
  refine (awake_any _ hT14).mono ?_
  rintro e w15 ⟨rfl, hb15⟩
  go_wp2
  go_ret
  exact ⟨rfl, hc14.trans (hb15.mono hc14.size)⟩

end Go.Proofs.YtfkbnemhkkbjgaaDoor
