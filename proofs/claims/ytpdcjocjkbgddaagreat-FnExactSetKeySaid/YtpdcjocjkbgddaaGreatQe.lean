/- Texts of the claim, merged: rules, contracts and plain laws. No condition. -/
import Derived.Test.YtpdcjocjkbgddaaGreatQd
set_option linter.unusedVariables false
set_option linter.unusedSimpArgs false
set_option linter.unusedSectionVars false
set_option maxRecDepth 20000
set_option maxHeartbeats 2000000
namespace Go.Proofs.YtpdcjocjkbgddaaGreat.Abs
open Go.RowKit
def lgT (call : FuncId → Spec) (n19 : Nat) (Q : Value → Mem → Prop) (x2 x3 : Int) (x4g x8g : Nat) (x10 x11 x12 x14 x15 x17 x18 : Int) (g475 g477 : Nat) (m539 : Mem) : Prop :=
 shK_6 call Q m539 g475 n19 x2 x3 x4g x8g x10 x11 x12 x14 x15 x17 x18 g477
def lgI (call : FuncId → Spec) (n19 : Nat) (Q : Value → Mem → Prop) (x2 x3 : Int) (x4g x8g : Nat) (x10 x11 x12 x14 x15 x17 x18 : Int) (g475 g477 : Nat) (m480 : Mem) : Prop :=
 (if (decide (x18 < x11)) = true then (∃ S481 : Mem → Prop, S481 m480 ∧ (∃ (ra482 : Option Addr) (rn483 rc484 : Nat), ((hsK S481 x4g 0 ra482 rn483 rc484) ∧ (∃ y486 : Int, ((hiK S481 x4g 1 y486) ∧ (∃ y488 : Int, ((hiK S481 x4g 2 y488) ∧ (∃ y490 : Int, ((hiK S481 x4g 3 y490) ∧ (∃ b492 : Bool, ((hbK S481 x4g 4 b492) ∧ (∃ y494 : Int, ((hiK S481 x4g 5 y494) ∧ (∃ y496 : Int, ((hiK S481 x4g 6 y496) ∧ (∃ y498 : Int, ((hiK S481 x4g 7 y498) ∧ (∃ y500 : Int, ((hiK S481 x4g 8 y500) ∧ (∃ (ra502 : Option Addr) (rn503 rc504 : Nat), ((hsK S481 x4g 9 ra502 rn503 rc504) ∧ (∃ (ra506 : Option Addr) (rn507 rc508 : Nat), ((hsK S481 x4g 0 ra506 rn507 rc508) ∧ (∃ y510 : Int, ((hiK S481 x4g 1 y510) ∧ (∃ y512 : Int, ((hiK S481 x4g 2 y512) ∧ (∃ y514 : Int, ((hiK S481 x4g 3 y514) ∧ (∃ b516 : Bool, ((hbK S481 x4g 4 b516) ∧ (∃ y518 : Int, ((hiK S481 x4g 5 y518) ∧ (∃ y520 : Int, ((hiK S481 x4g 6 y520) ∧ (∃ y522 : Int, ((hiK S481 x4g 7 y522) ∧ (∃ y524 : Int, ((hiK S481 x4g 8 y524) ∧ (∃ (ra526 : Option Addr) (rn527 rc528 : Nat), ((hsK S481 x4g 9 ra526 rn527 rc528) ∧ (call 99 [(.agg #[(.slice ra482 rn483 rc484), (.int .i64 y486), (.int .i64 y488), (.int .i64 y490), (.bool b492), (.int .i64 y494), (.int .i64 y496), (.int .i64 y498), (.int .i64 y500), (.slice ra502 rn503 rc504)]), (.int .i64 x10), (.int .i64 x18)] m480 fun v530 m531 => (∃ y532 : Int, (∃ y533 : Int, (v530 = (.agg #[(.int .i64 y532), (.int .i64 y533)]) ∧ (S481 m531 ∧ (call 123 [(.agg #[(.slice ra506 rn507 rc508), (.int .i64 y510), (.int .i64 y512), (.int .i64 y514), (.bool b516), (.int .i64 y518), (.int .i64 y520), (.int .i64 y522), (.int .i64 y524), (.slice ra526 rn527 rc528)]), (.int .i64 x10), (.int .i64 x18)] m531 fun v534 m535 => (∃ y536 : Int, (∃ y537 : Int, (v534 = (.agg #[(.int .i64 y536), (.int .i64 y537)]) ∧ (S481 m535 ∧ (stoA m535 ⟨g475, 0, none⟩ [(.int .i64 y532), (.int .i64 y533)] fun m538 => (S481 m538 ∧ (stoA m538 ⟨g477, 0, none⟩ [(.int .i64 y536), (.int .i64 y537)] fun m539 => (∃ y540 : Int, (ciK m539 g475 0 y540 ∧ (if (y540 == (0 : Int)) = true then L83_19 call n19 Q x2 x3 x4g x8g x10 x11 x12 x14 x15 x17 ((IntKind.i64.wrap (x18 + (1 : Int)))) m539 else (∃ y542 : Int, (ciK m539 g477 0 y542 ∧ (if (y542 == (0 : Int)) = true then L83_19 call n19 Q x2 x3 x4g x8g x10 x11 x12 x14 x15 x17 ((IntKind.i64.wrap (x18 + (1 : Int)))) m539 else (∃ (ra544 : Option Addr) (rn545 rc546 : Nat), (csK m539 x4g 0 ra544 rn545 rc546 ∧ (∃ y548 : Int, (ciK m539 x4g 1 y548 ∧ (∃ y550 : Int, (ciK m539 x4g 2 y550 ∧ (∃ y552 : Int, (ciK m539 x4g 3 y552 ∧ (∃ b554 : Bool, (cbK m539 x4g 4 b554 ∧ (∃ y556 : Int, (ciK m539 x4g 5 y556 ∧ (∃ y558 : Int, (ciK m539 x4g 6 y558 ∧ (∃ y560 : Int, (ciK m539 x4g 7 y560 ∧ (∃ y562 : Int, (ciK m539 x4g 8 y562 ∧ (∃ (ra564 : Option Addr) (rn565 rc566 : Nat), (csK m539 x4g 9 ra564 rn565 rc566 ∧ (∃ y568 : Int, (ciK m539 g475 0 y568 ∧ (∃ y570 : Int, (ciK m539 g475 1 y570 ∧ (call 82 [(.agg #[(.slice ra544 rn545 rc546), (.int .i64 y548), (.int .i64 y550), (.int .i64 y552), (.bool b554), (.int .i64 y556), (.int .i64 y558), (.int .i64 y560), (.int .i64 y562), (.slice ra564 rn565 rc566)]), (.int .i64 x15), (.int .i64 x14), (.agg #[(.int .i64 y568), (.int .i64 y570)])] m539 fun v572 m573 => (∃ y574 : Int, (∃ b575 : Bool, (v572 = (.tuple #[(.int .i64 y574), (.bool b575)]) ∧ (∃ (ra576 : Option Addr) (rn577 rc578 : Nat), (csK m573 x4g 0 ra576 rn577 rc578 ∧ (∃ y580 : Int, (ciK m573 x4g 1 y580 ∧ (∃ y582 : Int, (ciK m573 x4g 2 y582 ∧ (∃ y584 : Int, (ciK m573 x4g 3 y584 ∧ (∃ b586 : Bool, (cbK m573 x4g 4 b586 ∧ (∃ y588 : Int, (ciK m573 x4g 5 y588 ∧ (∃ y590 : Int, (ciK m573 x4g 6 y590 ∧ (∃ y592 : Int, (ciK m573 x4g 7 y592 ∧ (∃ y594 : Int, (ciK m573 x4g 8 y594 ∧ (∃ (ra596 : Option Addr) (rn597 rc598 : Nat), (csK m573 x4g 9 ra596 rn597 rc598 ∧ (∃ y600 : Int, (ciK m573 g475 0 y600 ∧ (∃ y602 : Int, (ciK m573 g475 1 y602 ∧ (call 46 [(.agg #[(.slice ra576 rn577 rc578), (.int .i64 y580), (.int .i64 y582), (.int .i64 y584), (.bool b586), (.int .i64 y588), (.int .i64 y590), (.int .i64 y592), (.int .i64 y594), (.slice ra596 rn597 rc598)]), (.int .i64 (IntKind.i64.wrap ((IntKind.i64.wrap (x15 + (1 : Int))) + (IntKind.i64.wrap ((4 : Int) * y574))))), (.agg #[(.int .i64 y600), (.int .i64 y602)])] m573 fun v604 m605 => (∃ (ra606 : Option Addr) (rn607 rc608 : Nat), (∃ y609 : Int, (∃ y610 : Int, (∃ y611 : Int, (∃ b612 : Bool, (∃ y613 : Int, (∃ y614 : Int, (∃ y615 : Int, (∃ y616 : Int, (∃ (ra617 : Option Addr) (rn618 rc619 : Nat), (v604 = (.agg #[(.slice ra606 rn607 rc608), (.int .i64 y609), (.int .i64 y610), (.int .i64 y611), (.bool b612), (.int .i64 y613), (.int .i64 y614), (.int .i64 y615), (.int .i64 y616), (.slice ra617 rn618 rc619)]) ∧ (stoA m605 ⟨x4g, 0, none⟩ [(.slice ra606 rn607 rc608), (.int .i64 y609), (.int .i64 y610), (.int .i64 y611), (.bool b612), (.int .i64 y613), (.int .i64 y614), (.int .i64 y615), (.int .i64 y616), (.slice ra617 rn618 rc619)] fun m620 => (∃ (ra621 : Option Addr) (rn622 rc623 : Nat), (csK m620 x4g 0 ra621 rn622 rc623 ∧ (∃ y625 : Int, (ciK m620 x4g 1 y625 ∧ (∃ y627 : Int, (ciK m620 x4g 2 y627 ∧ (∃ y629 : Int, (ciK m620 x4g 3 y629 ∧ (∃ b631 : Bool, (cbK m620 x4g 4 b631 ∧ (∃ y633 : Int, (ciK m620 x4g 5 y633 ∧ (∃ y635 : Int, (ciK m620 x4g 6 y635 ∧ (∃ y637 : Int, (ciK m620 x4g 7 y637 ∧ (∃ y639 : Int, (ciK m620 x4g 8 y639 ∧ (∃ (ra641 : Option Addr) (rn642 rc643 : Nat), (csK m620 x4g 9 ra641 rn642 rc643 ∧ (∃ y645 : Int, (ciK m620 g477 0 y645 ∧ (∃ y647 : Int, (ciK m620 g477 1 y647 ∧ (call 46 [(.agg #[(.slice ra621 rn622 rc623), (.int .i64 y625), (.int .i64 y627), (.int .i64 y629), (.bool b631), (.int .i64 y633), (.int .i64 y635), (.int .i64 y637), (.int .i64 y639), (.slice ra641 rn642 rc643)]), (.int .i64 (IntKind.i64.wrap ((IntKind.i64.wrap (x15 + (3 : Int))) + (IntKind.i64.wrap ((4 : Int) * y574))))), (.agg #[(.int .i64 y645), (.int .i64 y647)])] m620 fun v649 m650 => (∃ (ra651 : Option Addr) (rn652 rc653 : Nat), (∃ y654 : Int, (∃ y655 : Int, (∃ y656 : Int, (∃ b657 : Bool, (∃ y658 : Int, (∃ y659 : Int, (∃ y660 : Int, (∃ y661 : Int, (∃ (ra662 : Option Addr) (rn663 rc664 : Nat), (v649 = (.agg #[(.slice ra651 rn652 rc653), (.int .i64 y654), (.int .i64 y655), (.int .i64 y656), (.bool b657), (.int .i64 y658), (.int .i64 y659), (.int .i64 y660), (.int .i64 y661), (.slice ra662 rn663 rc664)]) ∧ (stoA m650 ⟨x4g, 0, none⟩ [(.slice ra651 rn652 rc653), (.int .i64 y654), (.int .i64 y655), (.int .i64 y656), (.bool b657), (.int .i64 y658), (.int .i64 y659), (.int .i64 y660), (.int .i64 y661), (.slice ra662 rn663 rc664)] fun m665 => L83_19 call n19 Q x2 x3 x4g x8g x10 x11 x12 x14 x15 x17 ((IntKind.i64.wrap (x18 + (1 : Int)))) m665)))))))))))))))))))))))))))))))))))))))))))))))))))))))))))))))))))))))))))))))))))))))))))))))))))))))))))))))))))))))))))))))))))))))))))))))))))))))))))))))))) else (∃ y666 : Int, (ciK m480 g475 0 y666 ∧ (if (y666 == (0 : Int)) = true then L83_19 call n19 Q x2 x3 x4g x8g x10 x11 x12 x14 x15 x17 ((IntKind.i64.wrap (x18 + (1 : Int)))) m480 else (∃ y668 : Int, (ciK m480 g477 0 y668 ∧ (if (y668 == (0 : Int)) = true then L83_19 call n19 Q x2 x3 x4g x8g x10 x11 x12 x14 x15 x17 ((IntKind.i64.wrap (x18 + (1 : Int)))) m480 else (∃ (ra670 : Option Addr) (rn671 rc672 : Nat), (csK m480 x4g 0 ra670 rn671 rc672 ∧ (∃ y674 : Int, (ciK m480 x4g 1 y674 ∧ (∃ y676 : Int, (ciK m480 x4g 2 y676 ∧ (∃ y678 : Int, (ciK m480 x4g 3 y678 ∧ (∃ b680 : Bool, (cbK m480 x4g 4 b680 ∧ (∃ y682 : Int, (ciK m480 x4g 5 y682 ∧ (∃ y684 : Int, (ciK m480 x4g 6 y684 ∧ (∃ y686 : Int, (ciK m480 x4g 7 y686 ∧ (∃ y688 : Int, (ciK m480 x4g 8 y688 ∧ (∃ (ra690 : Option Addr) (rn691 rc692 : Nat), (csK m480 x4g 9 ra690 rn691 rc692 ∧ (∃ y694 : Int, (ciK m480 g475 0 y694 ∧ (∃ y696 : Int, (ciK m480 g475 1 y696 ∧ (call 82 [(.agg #[(.slice ra670 rn671 rc672), (.int .i64 y674), (.int .i64 y676), (.int .i64 y678), (.bool b680), (.int .i64 y682), (.int .i64 y684), (.int .i64 y686), (.int .i64 y688), (.slice ra690 rn691 rc692)]), (.int .i64 x15), (.int .i64 x14), (.agg #[(.int .i64 y694), (.int .i64 y696)])] m480 fun v698 m699 => (∃ y700 : Int, (∃ b701 : Bool, (v698 = (.tuple #[(.int .i64 y700), (.bool b701)]) ∧ (∃ (ra702 : Option Addr) (rn703 rc704 : Nat), (csK m699 x4g 0 ra702 rn703 rc704 ∧ (∃ y706 : Int, (ciK m699 x4g 1 y706 ∧ (∃ y708 : Int, (ciK m699 x4g 2 y708 ∧ (∃ y710 : Int, (ciK m699 x4g 3 y710 ∧ (∃ b712 : Bool, (cbK m699 x4g 4 b712 ∧ (∃ y714 : Int, (ciK m699 x4g 5 y714 ∧ (∃ y716 : Int, (ciK m699 x4g 6 y716 ∧ (∃ y718 : Int, (ciK m699 x4g 7 y718 ∧ (∃ y720 : Int, (ciK m699 x4g 8 y720 ∧ (∃ (ra722 : Option Addr) (rn723 rc724 : Nat), (csK m699 x4g 9 ra722 rn723 rc724 ∧ (∃ y726 : Int, (ciK m699 g475 0 y726 ∧ (∃ y728 : Int, (ciK m699 g475 1 y728 ∧ (call 46 [(.agg #[(.slice ra702 rn703 rc704), (.int .i64 y706), (.int .i64 y708), (.int .i64 y710), (.bool b712), (.int .i64 y714), (.int .i64 y716), (.int .i64 y718), (.int .i64 y720), (.slice ra722 rn723 rc724)]), (.int .i64 (IntKind.i64.wrap ((IntKind.i64.wrap (x15 + (1 : Int))) + (IntKind.i64.wrap ((4 : Int) * y700))))), (.agg #[(.int .i64 y726), (.int .i64 y728)])] m699 fun v730 m731 => (∃ (ra732 : Option Addr) (rn733 rc734 : Nat), (∃ y735 : Int, (∃ y736 : Int, (∃ y737 : Int, (∃ b738 : Bool, (∃ y739 : Int, (∃ y740 : Int, (∃ y741 : Int, (∃ y742 : Int, (∃ (ra743 : Option Addr) (rn744 rc745 : Nat), (v730 = (.agg #[(.slice ra732 rn733 rc734), (.int .i64 y735), (.int .i64 y736), (.int .i64 y737), (.bool b738), (.int .i64 y739), (.int .i64 y740), (.int .i64 y741), (.int .i64 y742), (.slice ra743 rn744 rc745)]) ∧ (stoA m731 ⟨x4g, 0, none⟩ [(.slice ra732 rn733 rc734), (.int .i64 y735), (.int .i64 y736), (.int .i64 y737), (.bool b738), (.int .i64 y739), (.int .i64 y740), (.int .i64 y741), (.int .i64 y742), (.slice ra743 rn744 rc745)] fun m746 => (∃ (ra747 : Option Addr) (rn748 rc749 : Nat), (csK m746 x4g 0 ra747 rn748 rc749 ∧ (∃ y751 : Int, (ciK m746 x4g 1 y751 ∧ (∃ y753 : Int, (ciK m746 x4g 2 y753 ∧ (∃ y755 : Int, (ciK m746 x4g 3 y755 ∧ (∃ b757 : Bool, (cbK m746 x4g 4 b757 ∧ (∃ y759 : Int, (ciK m746 x4g 5 y759 ∧ (∃ y761 : Int, (ciK m746 x4g 6 y761 ∧ (∃ y763 : Int, (ciK m746 x4g 7 y763 ∧ (∃ y765 : Int, (ciK m746 x4g 8 y765 ∧ (∃ (ra767 : Option Addr) (rn768 rc769 : Nat), (csK m746 x4g 9 ra767 rn768 rc769 ∧ (∃ y771 : Int, (ciK m746 g477 0 y771 ∧ (∃ y773 : Int, (ciK m746 g477 1 y773 ∧ (call 46 [(.agg #[(.slice ra747 rn748 rc749), (.int .i64 y751), (.int .i64 y753), (.int .i64 y755), (.bool b757), (.int .i64 y759), (.int .i64 y761), (.int .i64 y763), (.int .i64 y765), (.slice ra767 rn768 rc769)]), (.int .i64 (IntKind.i64.wrap ((IntKind.i64.wrap (x15 + (3 : Int))) + (IntKind.i64.wrap ((4 : Int) * y700))))), (.agg #[(.int .i64 y771), (.int .i64 y773)])] m746 fun v775 m776 => (∃ (ra777 : Option Addr) (rn778 rc779 : Nat), (∃ y780 : Int, (∃ y781 : Int, (∃ y782 : Int, (∃ b783 : Bool, (∃ y784 : Int, (∃ y785 : Int, (∃ y786 : Int, (∃ y787 : Int, (∃ (ra788 : Option Addr) (rn789 rc790 : Nat), (v775 = (.agg #[(.slice ra777 rn778 rc779), (.int .i64 y780), (.int .i64 y781), (.int .i64 y782), (.bool b783), (.int .i64 y784), (.int .i64 y785), (.int .i64 y786), (.int .i64 y787), (.slice ra788 rn789 rc790)]) ∧ (stoA m776 ⟨x4g, 0, none⟩ [(.slice ra777 rn778 rc779), (.int .i64 y780), (.int .i64 y781), (.int .i64 y782), (.bool b783), (.int .i64 y784), (.int .i64 y785), (.int .i64 y786), (.int .i64 y787), (.slice ra788 rn789 rc790)] fun m791 => L83_19 call n19 Q x2 x3 x4g x8g x10 x11 x12 x14 x15 x17 ((IntKind.i64.wrap (x18 + (1 : Int)))) m791)))))))))))))))))))))))))))))))))))))))))))))))))))))))))))))))))))))))))))))))))))))))))))))))))))))))))))))
def lgA (call : FuncId → Spec) (Q : Value → Mem → Prop) (x1 x2 x3 : Int) (x4g x8g : Nat) (x12 x14 : Int) (m100 : Mem) : Prop :=
 shK_5 call Q m100 x4g x14 x8g x1 x2 x3 x12
def lgE (call : FuncId → Spec) (Q : Value → Mem → Prop) (x4g x8g : Nat) (x12 x15 x17 : Int) (m455 : Mem) : Prop :=
 (∃ (ra1109 : Option Addr) (rn1110 rc1111 : Nat), (csK m455 x4g 0 ra1109 rn1110 rc1111 ∧ (optA ra1109 fun d1113 => (0 ≤ (IntKind.i64.wrap (x17 + (1 : Int))) ∧ (IntKind.i64.wrap (x17 + (1 : Int))) < ((rn1110 : Nat) : Int) ∧ (stoA m455 (d1113.add (Int.toNat (IntKind.i64.wrap (x17 + (1 : Int))) * 1)) [(.int .u64 (IntKind.u64.wrap x12))] fun m1114 => (∃ (ra1115 : Option Addr) (rn1116 rc1117 : Nat), (csK m1114 x4g 0 ra1115 rn1116 rc1117 ∧ (∃ y1119 : Int, (ciK m1114 x4g 1 y1119 ∧ (∃ y1121 : Int, (ciK m1114 x4g 2 y1121 ∧ (∃ y1123 : Int, (ciK m1114 x4g 3 y1123 ∧ (∃ b1125 : Bool, (cbK m1114 x4g 4 b1125 ∧ (∃ y1127 : Int, (ciK m1114 x4g 5 y1127 ∧ (∃ y1129 : Int, (ciK m1114 x4g 6 y1129 ∧ (∃ y1131 : Int, (ciK m1114 x4g 7 y1131 ∧ (∃ y1133 : Int, (ciK m1114 x4g 8 y1133 ∧ (∃ (ra1135 : Option Addr) (rn1136 rc1137 : Nat), (csK m1114 x4g 9 ra1135 rn1136 rc1137 ∧ (call 46 [(.agg #[(.slice ra1115 rn1116 rc1117), (.int .i64 y1119), (.int .i64 y1121), (.int .i64 y1123), (.bool b1125), (.int .i64 y1127), (.int .i64 y1129), (.int .i64 y1131), (.int .i64 y1133), (.slice ra1135 rn1136 rc1137)]), (.int .i64 (IntKind.i64.wrap (x17 + (2 : Int)))), (.agg #[(.int .i64 (8 : Int)), (.int .i64 x15)])] m1114 fun v1139 m1140 => (∃ (ra1141 : Option Addr) (rn1142 rc1143 : Nat), (∃ y1144 : Int, (∃ y1145 : Int, (∃ y1146 : Int, (∃ b1147 : Bool, (∃ y1148 : Int, (∃ y1149 : Int, (∃ y1150 : Int, (∃ y1151 : Int, (∃ (ra1152 : Option Addr) (rn1153 rc1154 : Nat), (v1139 = (.agg #[(.slice ra1141 rn1142 rc1143), (.int .i64 y1144), (.int .i64 y1145), (.int .i64 y1146), (.bool b1147), (.int .i64 y1148), (.int .i64 y1149), (.int .i64 y1150), (.int .i64 y1151), (.slice ra1152 rn1153 rc1154)]) ∧ (stoA m1140 ⟨x4g, 0, none⟩ [(.slice ra1141 rn1142 rc1143), (.int .i64 y1144), (.int .i64 y1145), (.int .i64 y1146), (.bool b1147), (.int .i64 y1148), (.int .i64 y1149), (.int .i64 y1150), (.int .i64 y1151), (.slice ra1152 rn1153 rc1154)] fun m1155 => (∃ (ra1156 : Option Addr) (rn1157 rc1158 : Nat), (csK m1155 x4g 0 ra1156 rn1157 rc1158 ∧ (∃ y1160 : Int, (ciK m1155 x4g 1 y1160 ∧ (∃ y1162 : Int, (ciK m1155 x4g 2 y1162 ∧ (∃ y1164 : Int, (ciK m1155 x4g 3 y1164 ∧ (∃ b1166 : Bool, (cbK m1155 x4g 4 b1166 ∧ (∃ y1168 : Int, (ciK m1155 x4g 5 y1168 ∧ (∃ y1170 : Int, (ciK m1155 x4g 6 y1170 ∧ (∃ y1172 : Int, (ciK m1155 x4g 7 y1172 ∧ (∃ y1174 : Int, (ciK m1155 x4g 8 y1174 ∧ (∃ (ra1176 : Option Addr) (rn1177 rc1178 : Nat), (csK m1155 x4g 9 ra1176 rn1177 rc1178 ∧ (stoA m1155 ⟨x8g, 0, none⟩ [(.slice ra1156 rn1157 rc1158), (.int .i64 y1160), (.int .i64 y1162), (.int .i64 y1164), (.bool b1166), (.int .i64 y1168), (.int .i64 y1170), (.int .i64 y1172), (.int .i64 y1174), (.slice ra1176 rn1177 rc1178)] fun m1180 => (∃ (ra1181 : Option Addr) (rn1182 rc1183 : Nat), (csK m1180 x8g 0 ra1181 rn1182 rc1183 ∧ (∃ y1185 : Int, (ciK m1180 x8g 1 y1185 ∧ (∃ y1187 : Int, (ciK m1180 x8g 2 y1187 ∧ (∃ y1189 : Int, (ciK m1180 x8g 3 y1189 ∧ (∃ b1191 : Bool, (cbK m1180 x8g 4 b1191 ∧ (∃ y1193 : Int, (ciK m1180 x8g 5 y1193 ∧ (∃ y1195 : Int, (ciK m1180 x8g 6 y1195 ∧ (∃ y1197 : Int, (ciK m1180 x8g 7 y1197 ∧ (∃ y1199 : Int, (ciK m1180 x8g 8 y1199 ∧ (∃ (ra1201 : Option Addr) (rn1202 rc1203 : Nat), (csK m1180 x8g 9 ra1201 rn1202 rc1203 ∧ ret Q (.tuple #[(.agg #[(.slice ra1181 rn1182 rc1183), (.int .i64 y1185), (.int .i64 y1187), (.int .i64 y1189), (.bool b1191), (.int .i64 y1193), (.int .i64 y1195), (.int .i64 y1197), (.int .i64 y1199), (.slice ra1201 rn1202 rc1203)]), (.int .i64 (0 : Int))]) m1180)))))))))))))))))))))))))))))))))))))))))))))))))))))))))))))))))))))))))))))))
def s49 : Spec := fun args m Q => ∃ (s r : Sl) (a : Ar) (x : Int), args = [vA s r a, .int .i64 x] ∧ ArAt m s r a ∧ a.wf ∧ Q (.bool (pB ((0 ≤ x ∧ x < a.rs.length) ∧ (rtA a x).1 = 4))) m
theorem f49 (t : Tab) (h26 : look t 26 = s26) : ∀ args m Q, s49 args m Q → FA Tryz.prog (look t) kp49 Tryz.f49 args m Q := by
 intro args m Q hh
 obtain ⟨s, r, a, x, ha, hA, hw, hQ⟩ := hh
 have ha : args = [aG s r a, .int .i64 x] := ha
 rw [ha, e49]
 refine newA_intro fun g1 m2 hg1 e2 hb1 hle2 => ?_
 have p1 : Ptr m2 g1 s r a := hb1
 have hA2 := hA.le hle2
 refine ⟨_, _, _, cell_of p1 0, _, cell_of p1 1, _, cell_of p1 2, _, cell_of p1 3, _, cell_of p1 4, _, cell_of p1 5, _, cell_of p1 6, _, cell_of p1 7, _, cell_of p1 8, _, _, _, cell_of p1 9, via h26 ⟨s, r, a, x, rfl, hA2, hw, _, rfl, ?_⟩⟩
 by_cases hx : 0 ≤ x ∧ x < a.rs.length
 · rw [decide_eq_true hx, if_pos rfl]
   have hk := hA2.k
   refine ⟨_, _, _, cell_of p1 9, rget hA2.r hk hx.1 (by omega) fun ad had c1 c2 => ⟨_, c1, ret_bool hle2 hQ ?_⟩⟩
   show ((rtA a x).1 == 4) = _
   by_cases h3 : (rtA a x).1 = 4
   · rw [pB_yes ⟨hx, h3⟩, h3]; rfl
   · rw [pB_no fun h => h3 h.2]
     simpa using h3
 · rw [decide_eq_false hx, if_neg (by decide)]
   exact ret_bool hle2 hQ (pB_no fun h => hx h.1).symm
def s81 : Spec := fun args m Q => ∃ (s r : Sl) (a : Ar) (D : List Nat) (ri ki fi : Int), args = [vA s r a, .int .i64 ri] ∧ Wo m s r a D ∧ SkOk a ri ki fi ∧
 ∀ m', (∀ b, b ∉ D → m' b = m b) → Wo m' s r (ldA a ((rtA a ri).2 + 2)) D → Q (.tuple #[vA s r (ldA a ((rtA a ri).2 + 2)), .int .i64 (blkOf (ldA a ((rtA a ri).2 + 2)).ws (rtA (ldA a ((rtA a ri).2 + 2)) ri).2).1, .int .i64 (blkOf (ldA a ((rtA a ri).2 + 2)).ws (rtA (ldA a ((rtA a ri).2 + 2)) ri).2).2]) m'
theorem f81 (t : Tab) (h119 : look t 119 = s119) (h120 : look t 120 = s120) : ∀ args m Q, s81 args m Q → FA Tryz.prog (look t) kp81 Tryz.f81 args m Q := by
 intro args m Q hh
 obtain ⟨s, r, a, D, ri, ki, fi, ha, hW, h, hQ⟩ := hh
 have ha : args = [aG s r a, .int .i64 ri] := ha
 rw [ha, e81]
 obtain ⟨wa, wn, wc⟩ := s
 obtain ⟨ra, rn, rc⟩ := r
 have T := h.tab
 obtain ⟨hb, L, ert⟩ := h.load
 have hw := okC_wf h.ok
 have t0 := T.p0
 have t1 := T.p1
 have hn := hw.n
 have w2 : IntKind.i64.wrap ((rtA a ri).2 + 2) = (rtA a ri).2 + 2 := w64 (by omega) (by omega)
 refine newA_intro fun g1 m1 hg1 e1 hb1 hle1 => newA_intro fun g3 m2 hg3 e2 hb3 hle2 => ?_
 have l2 := Mem.le_trans hle1 hle2
 have p1 : m2 g1 = some (.cells (cA ⟨wa, wn, wc⟩ ⟨ra, rn, rc⟩ a) 29 (0, 0)) := hle2 _ _ hb1
 have im := hW.loc hg1 p1 l2
 have n13 : g1 ≠ g3 := ne_of_none hg3 hb1
 have z3 := le_none hle1 hg3
 have d3 := hW.fresh z3
 have A2 := im.w.at
 have k2 := A2.k
 refine ⟨fun q => q g1 = m2 g1 ∧ Rd q ra a.rs, ⟨rfl, A2.r⟩, _, _, _, fun q hq => cell_of (hq.1.trans im.p) 0, _, fun q hq => cell_of (hq.1.trans im.p) 1, _, fun q hq => cell_of (hq.1.trans im.p) 2, _, fun q hq => cell_of (hq.1.trans im.p) 3, _, fun q hq => cell_of (hq.1.trans im.p) 4, _, fun q hq => cell_of (hq.1.trans im.p) 5, _, fun q hq => cell_of (hq.1.trans im.p) 6, _, fun q hq => cell_of (hq.1.trans im.p) 7, _, fun q hq => cell_of (hq.1.trans im.p) 8, _, _, _, fun q hq => cell_of (hq.1.trans im.p) 9, _, _, _, fun q hq => cell_of (hq.1.trans im.p) 9, rgetH A2.r k2 h.r0 (by have := h.r1; omega) fun ad had c1 c2 => ⟨_, fun q hq => c2 q hq.2, ?_⟩⟩
 refine via h119 ⟨⟨wa, wn, wc⟩, ⟨ra, rn, rc⟩, a, D, (rtA a ri).2 + 2, by rw [← w2]; rfl, im.w, hw, by omega, by omega, T.v, h.refIn h.ok, fun m3 o3 w3 => ⟨_, _, _, _, _, _, _, _, _, _, _, _, _, _, _, _, rfl, ⟨o3 g1 im.g, by have := w3.at.r; rw [L.f.rs] at this; exact this⟩, ?_⟩⟩
 obtain ⟨b, eb⟩ : ∃ b, b = ldA a ((rtA a ri).2 + 2) := ⟨_, rfl⟩
 rw [← eb] at hb ert w3 hQ ⊢
 refine put_all ((o3 g1 im.g).trans im.p) w3 im.g fun m4 o4 im4 => ?_
 have A4 := im4.w.at
 have k4 := A4.k
 have hwb := okC_wf hb.ok
 refine ⟨Mem.le m4, Mem.le_refl _, _, _, _, held (cell_of im4.p 0), _, held (cell_of im4.p 1), _, held (cell_of im4.p 2), _, held (cell_of im4.p 3), _, held (cell_of im4.p 4), _, held (cell_of im4.p 5), _, held (cell_of im4.p 6), _, held (cell_of im4.p 7), _, held (cell_of im4.p 8), _, _, _, held (cell_of im4.p 9), _, _, _, held (cell_of im4.p 9), rgetH A4.r k4 hb.r0 (by have := hb.r1; omega) fun ad had c1 c2 => ⟨_, fun q hq => c2 q (A4.r.le hq), ?_⟩⟩
 refine via h120 ⟨⟨wa, wn, wc⟩, ⟨ra, rn, rc⟩, b, (rtA b ri).2, rfl, A4, hwb, hb.tab, _, _, rfl, ?_⟩
 have h34 : m4 g3 = some (.cells zAr 29 (0, 0)) := by rw [o4 g3 (Ne.symm n13), o3 g3 d3]; exact hb3
 refine ⟨_, _, _, cell_of im4.p 0, _, cell_of im4.p 1, _, cell_of im4.p 2, _, cell_of im4.p 3, _, cell_of im4.p 4, _, cell_of im4.p 5, _, cell_of im4.p 6, _, cell_of im4.p 7, _, cell_of im4.p 8, _, _, _, cell_of im4.p 9, sto_ar h34 fun m5 e5 q5 ne5 => ?_⟩
 have p5 : Ptr m5 g3 ⟨wa, wn, wc⟩ ⟨ra, rn, rc⟩ b := q5
 refine ⟨_, _, _, cell_of p5 0, _, cell_of p5 1, _, cell_of p5 2, _, cell_of p5 3, _, cell_of p5 4, _, cell_of p5 5, _, cell_of p5 6, _, cell_of p5 7, _, cell_of p5 8, _, _, _, cell_of p5 9, ?_⟩
 refine ret_off ((((Off.of_le l2).trans (Off.of_eq o3)).fresh hg1 o4).fresh z3 ne5) (hQ _ (fun b hb => mix_off hb) (Wo.mix (im4.w.ext fun q hq => ne5 q fun e => d3 (e ▸ hq))))
theorem lgT_ok (t : Tab) (h82 : look t 82 = s82) (h46 : look t 46 = s46) {Q : Value → Mem → Prop} {n19 : Nat} {ki fi b no l p n tb i cnt : Int} {g1 g3 gk gv : Nat} {s r : Sl} {c : Ar} {D : List Nat} {w : List U64} {k v : Vl} {M m0 : Mem} (gr : Grd c p n) (hF : Fill c p n w cnt) (hr : k.1 ≠ 0 → v.1 ≠ 0 → cnt < n ∧ KeyS c k)
   (im : Im M g1 s r { c with ws := w } D) (hO : Off D m0 M) (z1 : m0 g1 = none) (hk : M gk = some (.cells #[.int .i64 k.1, .int .i64 k.2] 58 (0, 0))) (hv : M gv = some (.cells #[.int .i64 v.1, .int .i64 v.2] 58 (0, 0))) (dv : gv ∉ D) (nv : gv ≠ g1)
   (hN : ∀ M', Off D m0 M' → Im M' g1 s r { c with ws := if k.1 = 0 ∨ v.1 = 0 then w else layW p n w k v } D → (∀ q, q ≠ g1 → q ∉ D → M' q = M q) → L83_19 (look t) n19 Q ki fi g1 g3 b no l n p tb (IntKind.i64.wrap (i + 1)) M') : lgT (look t) n19 Q ki fi g1 g3 b no l n p tb i gk gv M := by
 obtain ⟨wa, wn, wc⟩ := s
 obtain ⟨ra, rn, rc⟩ := r
 unfold lgT
 refine ⟨_, cell_of hk 0, ?_⟩
 by_cases c1 : k.1 = 0
 · rw [if_pos (by simpa using c1)]
   rw [if_pos (.inl c1)] at hN
   exact hN M hO im fun q _ _ => rfl
 rw [if_neg (by simpa using c1)]
 refine ⟨_, cell_of hv 0, ?_⟩
 by_cases c2 : v.1 = 0
 · rw [if_pos (by simpa using c2)]
   rw [if_pos (.inr c2)] at hN
   exact hN M hO im fun q _ _ => rfl
 rw [if_neg (by simpa using c2)]
 rw [if_neg (by simp [c1, c2])] at hN
 obtain ⟨hc, hK⟩ := hr c1 c2
 have f := hF.find gr hc hK
 have hl := hF.len
 have hcn := (okC_wf gr.ok).n
 have p0 := gr.nw.p0
 have p1 := gr.nw.p1
 have n1 := gr.n1
 refine ⟨_, _, _, cell_of im.p 0, _, cell_of im.p 1, _, cell_of im.p 2, _, cell_of im.p 3, _, cell_of im.p 4, _, cell_of im.p 5, _, cell_of im.p 6, _, cell_of im.p 7, _, cell_of im.p 8, _, _, _, cell_of im.p 9, _, cell_of hk 0, _, cell_of hk 1, via h82 ⟨⟨wa, wn, wc⟩, ⟨ra, rn, rc⟩, { c with ws := w }, p, n, k, rfl, im.w.at, hF.wf gr, .inr ⟨hF.blk gr, .inr (hF.keyOk gr hK)⟩, _, _, rfl, ?_⟩⟩
 have hN : ∀ M', Off D m0 M' → Im M' g1 ⟨wa, wn, wc⟩ ⟨ra, rn, rc⟩ (putV (putV { c with ws := w } (p + 1 + 4 * (findA w p n k).1) k) (p + 3 + 4 * (findA w p n k).1) v) D → (∀ q, q ≠ g1 → q ∉ D → M' q = M q) → L83_19 (look t) n19 Q ki fi g1 g3 b no l n p tb (IntKind.i64.wrap (i + 1)) M' := hN
 show ∃ _, _
 obtain ⟨e, ee⟩ : ∃ e, e = (findA w p n k).1 := ⟨_, rfl⟩
 rw [← ee] at f hN
 have w1 : IntKind.i64.wrap (IntKind.i64.wrap (p + 1) + IntKind.i64.wrap (4 * e)) = p + 1 + 4 * e := by rw [w64 (x := p + 1) (by omega) (by omega), w64 (x := 4 * e) (by omega) (by omega), w64 (by omega) (by omega)]
 have w3 : IntKind.i64.wrap (IntKind.i64.wrap (p + 3) + IntKind.i64.wrap (4 * e)) = p + 3 + 4 * e := by rw [w64 (x := p + 3) (by omega) (by omega), w64 (x := 4 * e) (by omega) (by omega), w64 (by omega) (by omega)]
 refine ⟨_, _, _, cell_of im.p 0, _, cell_of im.p 1, _, cell_of im.p 2, _, cell_of im.p 3, _, cell_of im.p 4, _, cell_of im.p 5, _, cell_of im.p 6, _, cell_of im.p 7, _, cell_of im.p 8, _, _, _, cell_of im.p 9, _, cell_of hk 0, _, cell_of hk 1, via h46 ⟨⟨wa, wn, wc⟩, ⟨ra, rn, rc⟩, { c with ws := w }, D, p + 1 + 4 * e, k, by rw [← w1, ee]; rfl, im.w, by omega, by show p + 1 + 4 * e + 1 < (w.length : Int); omega, by show w.length ≤ _; omega, fun m1 o1 w1' => ⟨_, _, _, _, _, _, _, _, _, _, _, _, _, _, rfl, ?_⟩⟩⟩
 refine put_all ((o1 g1 im.g).trans im.p) w1' im.g fun m2 o2 im2 => ?_
 have hv2 : m2 gv = some (.cells #[.int .i64 v.1, .int .i64 v.2] 58 (0, 0)) := by rw [o2 gv nv, o1 gv dv]; exact hv
 refine ⟨_, _, _, cell_of im2.p 0, _, cell_of im2.p 1, _, cell_of im2.p 2, _, cell_of im2.p 3, _, cell_of im2.p 4, _, cell_of im2.p 5, _, cell_of im2.p 6, _, cell_of im2.p 7, _, cell_of im2.p 8, _, _, _, cell_of im2.p 9, _, cell_of hv2 0, _, cell_of hv2 1, via h46 ⟨⟨wa, wn, wc⟩, ⟨ra, rn, rc⟩, putV { c with ws := w } (p + 1 + 4 * e) k, D, p + 3 + 4 * e, v, by rw [← w3, ee]; rfl, im2.w, by omega, by rw [put_len]; show p + 3 + 4 * e + 1 < (w.length : Int); omega, by rw [put_len]; show w.length ≤ _; omega, fun m3 o3 w3' => ⟨_, _, _, _, _, _, _, _, _, _, _, _, _, _, rfl, ?_⟩⟩⟩
 refine put_all ((o3 g1 im.g).trans im2.p) w3' im.g fun m4 o4 im4 => ?_
 exact hN m4 ((((hO.trans (Off.of_eq o1)).fresh z1 o2).trans (Off.of_eq o3)).fresh z1 o4) im4 fun q hq hd => by rw [o4 q hq, o3 q hd, o2 q hq, o1 q hd]
theorem lgS_ok (t : Tab) {Q : Value → Mem → Prop} {n19 : Nat} {ki fi b no l p n tb i : Int} {g1 g3 : Nat} {s r : Sl} {c : Ar} {D : List Nat} {M : Mem} (im : Im M g1 s r c D) (k0 : 0 ≤ ki) (k1 : ki < c.rs.length) (f0 : 0 ≤ fi) (f1 : fi < c.rs.length) (hi : i ≤ no)
   (H : ∀ (gk gv : Nat) (M' : Mem), Mem.le M M' → M gk = none → M gv = none → gk ≠ gv → M' gk = some (.cells #[.int .i64 (rtA c ki).1, .int .i64 (rtA c ki).2] 58 (0, 0)) → M' gv = some (.cells #[.int .i64 (rtA c fi).1, .int .i64 (rtA c fi).2] 58 (0, 0)) → lgI (look t) n19 Q ki fi g1 g3 b no l n p tb i gk gv M') :
   L83_19 (look t) (n19 + 1) Q ki fi g1 g3 b no l n p tb i M := by
 rw [l83_19]
 refine ⟨M, Mem.le_refl _, ?_⟩
 rw [if_pos (by simp; omega)]
 have A := im.w.at
 have k := A.k
 refine ⟨Mem.le M, Mem.le_refl _, _, _, _, held (cell_of im.p 9), rgetH A.r k k0 (by omega) fun ad had c1 c2 => ⟨_, fun q hq => c1 q (A.r.le hq), _, fun q hq => c2 q (A.r.le hq), _, _, _, held (cell_of im.p 9), ?_⟩⟩
 refine rgetH A.r k f0 (by omega) fun ad had c1 c2 => ⟨_, fun q hq => c1 q (A.r.le hq), _, fun q hq => c2 q (A.r.le hq), ?_, ?_⟩
 · refine newA_intro fun gk m1 hgk e1 hb1 le1 => ⟨le1, newA_intro fun gv m2 hgv e2 hb2 le2 => ⟨Mem.le_trans le1 le2, ?_⟩⟩
   have nkv : gk ≠ gv := ne_of_none hgv hb1
   refine sto (c := #[.int .i64 0, .int .i64 0]) (t := 58) (le2 _ _ hb1) rfl (by simp) fun m3 e3 q3 ne3 => ⟨le_other (Mem.le_trans le1 le2) hgk ne3, sto (c := #[.int .i64 0, .int .i64 0]) (t := 58) ((ne3 gv (Ne.symm nkv)).trans hb2) rfl (by simp) fun m4 e4 q4 ne4 => ?_⟩
   have q3 : m3 gk = some (.cells #[.int .i64 (rtA c ki).1, .int .i64 (rtA c ki).2] 58 (0, 0)) := q3
   have q4 : m4 gv = some (.cells #[.int .i64 (rtA c fi).1, .int .i64 (rtA c fi).2] 58 (0, 0)) := q4
   exact H gk gv m4 (le_other (le_other (Mem.le_trans le1 le2) hgk ne3) (le_none le1 hgv) ne4) hgk (le_none le1 hgv) nkv (by rw [ne4 gk nkv]; exact q3) q4
 · refine newA_intro fun gv m1 hgv e1 hb1 le1 => ⟨le1, newA_intro fun gk m2 hgk e2 hb2 le2 => ⟨Mem.le_trans le1 le2, ?_⟩⟩
   have nkv : gk ≠ gv := Ne.symm (ne_of_none hgk hb1)
   refine sto (c := #[.int .i64 0, .int .i64 0]) (t := 58) hb2 rfl (by simp) fun m3 e3 q3 ne3 => ⟨le_other (Mem.le_trans le1 le2) (le_none le1 hgk) ne3, sto (c := #[.int .i64 0, .int .i64 0]) (t := 58) ((ne3 gv (Ne.symm nkv)).trans (le2 _ _ hb1)) rfl (by simp) fun m4 e4 q4 ne4 => ?_⟩
   have q3 : m3 gk = some (.cells #[.int .i64 (rtA c ki).1, .int .i64 (rtA c ki).2] 58 (0, 0)) := q3
   have q4 : m4 gv = some (.cells #[.int .i64 (rtA c fi).1, .int .i64 (rtA c fi).2] 58 (0, 0)) := q4
   exact H gk gv m4 (le_other (le_other (Mem.le_trans le1 le2) (le_none le1 hgk) ne3) hgv ne4) (le_none le1 hgk) hgv nkv (by rw [ne4 gk nkv]; exact q3) q4
theorem lgE_ok (t : Tab) (h46 : look t 46 = s46) {Q : Value → Mem → Prop} {l p tb : Int} {g1 g3 : Nat} {s r : Sl} {c : Ar} {D : List Nat} {w : List U64} {M m0 : Mem} (hl : w.length = c.ws.length) (hcn : c.ws.length ≤ 2 ^ 20) (t0 : 1 ≤ tb) (t1 : tb + 4 ≤ c.ws.length)
   (im : Im M g1 s r { c with ws := w } D) (hO : Off D m0 M) (z1 : m0 g1 = none) (z3 : m0 g3 = none) (d3 : g3 ∉ D) (n31 : g3 ≠ g1) (h3 : M g3 = some (.cells zAr 29 (0, 0)))
   (hQ : ∀ m', (∀ b, b ∉ D → m' b = m0 b) → Wo m' s r { c with ws := setW (setW (setW w (tb + 1) (uW l)) (tb + 2) (uW 8)) (tb + 2 + 1) (uW p) } D → Q (.tuple #[vA s r { c with ws := setW (setW (setW w (tb + 1) (uW l)) (tb + 2) (uW 8)) (tb + 2 + 1) (uW p) }, .int .i64 0]) m') : lgE (look t) Q g1 g3 l p tb M := by
 obtain ⟨wa, wn, wc⟩ := s
 obtain ⟨ra, rn, rc⟩ := r
 unfold lgE
 have w1 : IntKind.i64.wrap (tb + 1) = tb + 1 := w64 (by omega) (by omega)
 have w2 : IntKind.i64.wrap (tb + 2) = tb + 2 := w64 (by omega) (by omega)
 rw [w1]
 refine ⟨_, _, _, cell_of im.p 0, im.put_w (by omega) (by show tb + 1 < (w.length : Int); omega) fun m1 o1 im1 => ⟨_, _, _, cell_of im1.p 0, _, cell_of im1.p 1, _, cell_of im1.p 2, _, cell_of im1.p 3, _, cell_of im1.p 4, _, cell_of im1.p 5, _, cell_of im1.p 6, _, cell_of im1.p 7, _, cell_of im1.p 8, _, _, _, cell_of im1.p 9, ?_⟩⟩
 have l1 : (setW w (tb + 1) (uW l)).length = c.ws.length := by rw [setW_len, hl]
 refine via h46 ⟨⟨wa, wn, wc⟩, ⟨ra, rn, rc⟩, { c with ws := setW w (tb + 1) (uW l) }, D, tb + 2, (8, p), by rw [w2]; rfl, im1.w, by omega, by show tb + 2 + 1 < ((setW w (tb + 1) (uW l)).length : Int); omega, by show (setW w (tb + 1) (uW l)).length ≤ _; omega, fun m2 o2 w2' => ⟨_, _, _, _, _, _, _, _, _, _, _, _, _, _, rfl, ?_⟩⟩
 refine put_all ((o2 g1 im1.g).trans im1.p) w2' im.g fun m3 o3 im3 => ?_
 have h33 : m3 g3 = some (.cells zAr 29 (0, 0)) := by rw [o3 g3 n31, o2 g3 d3, o1 g3 d3]; exact h3
 exact (stT_ok im3 h33 z3 d3 (((hO.trans (Off.of_eq o1)).trans (Off.of_eq o2)).fresh z1 o3) hQ : stT Q g1 g3 0 m3)
theorem lg_ok (t : Tab) (h99 : look t 99 = s99) (h123 : look t 123 = s123) (h82 : look t 82 = s82) (h46 : look t 46 = s46) {Q : Value → Mem → Prop} {ri ki fi b no l p n tb : Int} {g1 g3 : Nat} {s r : Sl} {c : Ar} {D : List Nat} {m0 : Mem} {W : List U64} (hs : SkOk c ri ki fi) (gr : Grd c p n) (O : Old c b no) (b0 : 0 ≤ b) (hf0 : (rtA c fi).1 ≠ 0)
   (t0 : 1 ≤ tb) (t1 : tb + 4 ≤ c.ws.length) (z1 : m0 g1 = none) (z3 : m0 g3 = none) (d3 : g3 ∉ D) (n31 : g3 ≠ g1)
   (hQ : ∀ m', (∀ b, b ∉ D → m' b = m0 b) → Wo m' s r { c with ws := rnW p n tb l W (rtA c ki) (rtA c fi) } D → Q (.tuple #[vA s r { c with ws := rnW p n tb l W (rtA c ki) (rtA c fi) }, .int .i64 0]) m') :
   ∀ (d i : Nat), (i : Int) + d = no → ∀ (w : List U64) (cnt : Int), Fill c p n w cnt → cnt + aliveF c.ws b d i + 1 ≤ n → fillF p n b d i w = W → ∀ M : Mem, Off D m0 M → Im M g1 s r { c with ws := w } D → M g3 = some (.cells zAr 29 (0, 0)) →
     L83_19 (look t) (d + 1 + 1) Q ki fi g1 g3 b no l n p tb (i : Int) M := by
 have hcw := okC_wf gr.ok
 have hcn := hcw.n
 have n1 := O.n1
 intro d
 induction d with
 | zero =>
   intro i hi w cnt hF hr hW M hO im h3
   refine lgS_ok t im hs.k0 hs.k1 hs.f0 hs.f1 (by omega) fun gk gv M' le zk zv nkv hk hv => ?_
   have im' := im.le le
   have nk1 : gk ≠ g1 := fun e => by have := im.p; rw [← e, Ptr, zk] at this; cases this
   have nv1 : gv ≠ g1 := fun e => by have := im.p; rw [← e, Ptr, zv] at this; cases this
   have hW : w = W := hW
   subst hW
   unfold lgI
   rw [if_neg (by simp; omega)]
   have hr' : cnt + 0 + 1 ≤ n := hr
   refine lgT_ok t h82 h46 gr hF (fun _ _ => ⟨by omega, hs.key⟩) im' (hO.trans (Off.of_le le)) z1 hk hv (im.w.fresh zv) nv1 fun M2 hO2 im2 keep => ?_
   rw [if_neg fun e => e.elim hs.kn hf0] at im2
   have ei : IntKind.i64.wrap ((i : Int) + 1) = (i : Int) + 1 := w64 (by omega) (by omega)
   have h32 : M2 g3 = some (.cells zAr 29 (0, 0)) := by rw [keep g3 n31 d3]; exact le _ _ h3
   rw [ei, l83_19]
   refine ⟨M2, Mem.le_refl _, ?_⟩
   rw [if_neg (by simp; omega)]
   show lgE (look t) Q g1 g3 l p tb M2
   exact lgE_ok t h46 (by rw [lay_len, hF.len]) hcn t0 t1 im2 hO2 z1 z3 d3 n31 h32 hQ
 | succ d ih =>
   intro i hi w cnt hF hr hW M hO im h3
   refine lgS_ok t im hs.k0 hs.k1 hs.f0 hs.f1 (by omega) fun gk gv M' le zk zv nkv hk hv => ?_
   have im' := im.le le
   have nk1 : gk ≠ g1 := fun e => by have := im.p; rw [← e, Ptr, zk] at this; cases this
   have nv1 : gv ≠ g1 := fun e => by have := im.p; rw [← e, Ptr, zv] at this; cases this
   have dk := im.w.fresh zk
   have dv := im.w.fresh zv
   have ar := aliveF_range c.ws b (d + 1) i
   obtain ⟨cnt', F', e', al⟩ := O.step hF gr (f := d) (i := (i : Int)) (by omega) (by omega) (by omega)
   obtain ⟨v1, v2⟩ := O.fill hF gr (i := (i : Int)) (by omega) (by omega)
   obtain ⟨s1, s2, s3⟩ := O.src gr.ok gr.s (i := (i : Int)) (by omega) (by omega)
   have hwf := hF.wf gr
   have hwl := hF.len
   have hb4 : b + 4 * no < c.ws.length := by
     obtain ⟨q1, q2, q3, q4⟩ := O.b.resolve_left (by omega)
     have := gr.ok.at q1
     omega
   have rk : readV w (b + 1 + 4 * (i : Int)) = (valW w (b + 1 + 4 * (i : Int)), true) := by unfold readV; rw [v1, (gr.ok.src s1).1]; rfl
   have rv : readV w (b + 3 + 4 * (i : Int)) = (valW w (b + 3 + 4 * (i : Int)), true) := by unfold readV; rw [v2, (gr.ok.src s2).1]; rfl
   unfold lgI
   rw [if_pos (by simp; omega)]
   refine ⟨fun q => q g1 = M' g1, rfl, _, _, _, fun q hq => cell_of (hq.trans im'.p) 0, _, fun q hq => cell_of (hq.trans im'.p) 1, _, fun q hq => cell_of (hq.trans im'.p) 2, _, fun q hq => cell_of (hq.trans im'.p) 3, _, fun q hq => cell_of (hq.trans im'.p) 4, _, fun q hq => cell_of (hq.trans im'.p) 5, _, fun q hq => cell_of (hq.trans im'.p) 6, _, fun q hq => cell_of (hq.trans im'.p) 7, _, fun q hq => cell_of (hq.trans im'.p) 8, _, _, _, fun q hq => cell_of (hq.trans im'.p) 9, _, _, _, fun q hq => cell_of (hq.trans im'.p) 0, _, fun q hq => cell_of (hq.trans im'.p) 1, _, fun q hq => cell_of (hq.trans im'.p) 2, _, fun q hq => cell_of (hq.trans im'.p) 3, _, fun q hq => cell_of (hq.trans im'.p) 4, _, fun q hq => cell_of (hq.trans im'.p) 5, _, fun q hq => cell_of (hq.trans im'.p) 6, _, fun q hq => cell_of (hq.trans im'.p) 7, _, fun q hq => cell_of (hq.trans im'.p) 8, _, _, _, fun q hq => cell_of (hq.trans im'.p) 9, ?_⟩
   refine via h99 ⟨s, r, { c with ws := w }, b, (i : Int), rfl, im'.w.at, hwf, b0, by omega, by show b + 1 + 4 * (i : Int) + 1 < (w.length : Int); omega, _, _, rfl, rfl, ?_⟩
   refine via h123 ⟨s, r, { c with ws := w }, b, (i : Int), rfl, im'.w.at, hwf, b0, by omega, by show b + 3 + 4 * (i : Int) + 1 < (w.length : Int); omega, _, _, rfl, rfl, ?_⟩
   show stoA M' ⟨gk, 0, none⟩ [.int .i64 (readV w (b + 1 + 4 * (i : Int))).1.1, .int .i64 (readV w (b + 1 + 4 * (i : Int))).1.2] fun m1 => m1 g1 = M' g1 ∧ stoA m1 ⟨gv, 0, none⟩ [.int .i64 (readV w (b + 3 + 4 * (i : Int))).1.1, .int .i64 (readV w (b + 3 + 4 * (i : Int))).1.2] fun m2 => lgT (look t) (d + 1 + 1) Q ki fi g1 g3 b no l n p tb (i : Int) gk gv m2
   rw [rk, rv]
   refine sto (c := #[.int .i64 (rtA c ki).1, .int .i64 (rtA c ki).2]) (t := 58) hk rfl (by simp) fun m1 e1 q1 ne1 => ⟨ne1 g1 (Ne.symm nk1), sto (c := #[.int .i64 (rtA c fi).1, .int .i64 (rtA c fi).2]) (t := 58) ((ne1 gv (Ne.symm nkv)).trans hv) rfl (by simp) fun m2 e2 q2 ne2 => ?_⟩
   have q1 : m1 gk = some (.cells #[.int .i64 (valW w (b + 1 + 4 * (i : Int))).1, .int .i64 (valW w (b + 1 + 4 * (i : Int))).2] 58 (0, 0)) := q1
   have q2 : m2 gv = some (.cells #[.int .i64 (valW w (b + 3 + 4 * (i : Int))).1, .int .i64 (valW w (b + 3 + 4 * (i : Int))).2] 58 (0, 0)) := q2
   have im2 : Im m2 g1 s r { c with ws := w } D := (im'.ext fun q hq => ne1 q fun e => by
     rcases List.mem_cons.1 hq with h | h
     · exact nk1 (e.symm.trans h)
     · exact dk (e ▸ h)).ext fun q hq => ne2 q fun e => by
     rcases List.mem_cons.1 hq with h | h
     · exact nv1 (e.symm.trans h)
     · exact dv (e ▸ h)
   have h32 : m2 g3 = some (.cells zAr 29 (0, 0)) := by
     have n3k : g3 ≠ gk := fun e => by rw [e, zk] at h3; cases h3
     have n3v : g3 ≠ gv := fun e => by rw [e, zv] at h3; cases h3
     rw [ne2 g3 n3v, ne1 g3 n3k]
     exact le _ _ h3
   have z0 : ∀ {g : Nat}, M g = none → g ∉ D → m0 g = none := fun hg hd => hO.none hg hd
   have hO2 : Off D m0 m2 := ((hO.trans (Off.of_le le)).fresh (z0 zk dk) ne1).fresh (z0 zv dv) ne2
   have ea : aliveB w b (i : Int) = true ↔ ¬ ((valW w (b + 1 + 4 * (i : Int))).1 = 0 ∨ (valW w (b + 3 + 4 * (i : Int))).1 = 0) := by
     unfold aliveB
     simp only [Bool.and_eq_true, bne_iff_ne, ne_eq, not_or]
   refine lgT_ok t h82 h46 gr hF (fun a1 a2 => al (ea.2 (by simp [a1, a2]))) im2 hO2 z1 (by rw [ne2 gk nkv]; exact q1) q2 dv nv1 fun M3 hO3 im3 keep => ?_
   have ei : IntKind.i64.wrap ((i : Int) + 1) = ((i + 1 : Nat) : Int) := wsucc (n := i + 1) (by omega) (by omega)
   have ew : (if (valW w (b + 1 + 4 * (i : Int))).1 = 0 ∨ (valW w (b + 3 + 4 * (i : Int))).1 = 0 then w else layW p n w (valW w (b + 1 + 4 * (i : Int))) (valW w (b + 3 + 4 * (i : Int)))) = (if aliveB w b (i : Int) = true then layW p n w (valW w (b + 1 + 4 * (i : Int))) (valW w (b + 3 + 4 * (i : Int))) else w) := by
     by_cases c1 : aliveB w b (i : Int) = true
     · rw [if_pos c1, if_neg (ea.1 c1)]
     · rw [if_neg c1, if_pos (Classical.not_not.1 fun c2 => c1 (ea.2 c2))]
   rw [ew] at im3
   rw [ei]
   exact ih (i + 1) (by omega) _ cnt' F' (by rw [show ((i + 1 : Nat) : Int) = (i : Int) + 1 by omega]; omega) (by rw [show ((i + 1 : Nat) : Int) = (i : Int) + 1 by omega]; exact hW) M3 hO3 im3 (by rw [keep g3 n31 d3]; exact h32)
theorem lgA_ok (t : Tab) (h99 : look t 99 = s99) (h123 : look t 123 = s123) (h82 : look t 82 = s82) (h46 : look t 46 = s46) (h45 : look t 45 = s45) (h120 : look t 120 = s120) {Q : Value → Mem → Prop} {ri ki fi l : Int} {g1 g3 : Nat} {s r : Sl} {b : Ar} {D : List Nat} {M m0 : Mem} (h : SkOk b ri ki fi) (hf0 : (rtA b fi).1 ≠ 0)
   (hl : l = 1 + aliveF b.ws (blkOf b.ws (rtA b ri).2).1 (blkOf b.ws (rtA b ri).2).2.toNat 0) (hg : ¬ growN l > 64) (im : Im M g1 s r b D) (hO : Off D m0 M) (z1 : m0 g1 = none) (z3 : m0 g3 = none) (d3 : g3 ∉ D) (n31 : g3 ≠ g1) (h3 : M g3 = some (.cells zAr 29 (0, 0)))
   (hQ : ∀ m', (∀ b, b ∉ D → m' b = m0 b) → Wo m' s r (gkR b ri ki fi).1 D → Q (.tuple #[vA s r (gkR b ri ki fi).1, .int .i64 (gkR b ri ki fi).2]) m') : lgA (look t) Q ri ki fi g1 g3 l (growN l) M := by
 obtain ⟨wa, wn, wc⟩ := s
 obtain ⟨ra, rn, rc⟩ := r
 have ar := aliveF_range b.ws (blkOf b.ws (rtA b ri).2).1 (blkOf b.ws (rtA b ri).2).2.toNat 0
 obtain ⟨g1', g2', g3', g4'⟩ := growN_ok l (by omega) (by omega)
 obtain ⟨k1, k2⟩ := h.grow hl (by omega)
 have w4 : IntKind.i64.wrap (4 * growN l) = 4 * growN l := w64 (by omega) (by omega)
 have eg : gkR b ri ki fi = if growN l > 64 then (b, 1) else if (askA 3 (4 * growN l) b).2.2 = 0 then (rnA (askA 3 (4 * growN l) b).1 (askA 3 (4 * growN l) b).2.1 (growN l) ri ki fi l, 0) else ((askA 3 (4 * growN l) b).1, (askA 3 (4 * growN l) b).2.2) := by rw [hl]; rfl
 rw [eg, if_neg hg] at hQ
 unfold lgA
 refine ⟨_, _, _, cell_of im.p 0, _, cell_of im.p 1, _, cell_of im.p 2, _, cell_of im.p 3, _, cell_of im.p 4, _, cell_of im.p 5, _, cell_of im.p 6, _, cell_of im.p 7, _, cell_of im.p 8, _, _, _, cell_of im.p 9, via h45 ⟨⟨wa, wn, wc⟩, ⟨ra, rn, rc⟩, b, D, 3, 4 * growN l, by rw [w4]; rfl, im.w, h.ok, g3', fun m1 o1 w1 => ⟨_, _, _, _, _, _, _, _, _, _, _, _, _, _, _, _, rfl, ?_⟩⟩⟩
 have sm := (h.same k1.ok (ask_sm h.ok g3' (fun e => absurd e (by decide))).2.1).2.2
 generalize askA 3 (4 * growN l) b = q at *
 obtain ⟨c, p, code⟩ := q
 simp only at k1 k2 hQ w1 sm ⊢
 refine put_all ((o1 g1 im.g).trans im.p) w1 im.g fun m2 o2 im2 => ?_
 have h32 : m2 g3 = some (.cells zAr 29 (0, 0)) := by rw [o2 g3 n31, o1 g3 d3]; exact h3
 have O2 : Off D m0 m2 := (hO.trans (Off.of_eq o1)).fresh z1 o2
 rcases k2 with ⟨rfl, gr, hl'⟩ | rfl
 · rw [if_neg (by decide)]
   rw [if_pos rfl] at hQ
   have A2 := im2.w.at
   have kk := A2.k
   have T := k1.tab
   refine ⟨_, _, _, cell_of im2.p 9, rget A2.r kk k1.r0 (by have := k1.r1; omega) fun ad had c1 c2 => ⟨_, c2, _, _, _, cell_of im2.p 0, _, cell_of im2.p 1, _, cell_of im2.p 2, _, cell_of im2.p 3, _, cell_of im2.p 4, _, cell_of im2.p 5, _, cell_of im2.p 6, _, cell_of im2.p 7, _, cell_of im2.p 8, _, _, _, cell_of im2.p 9, ?_⟩⟩
   refine via h120 ⟨⟨wa, wn, wc⟩, ⟨ra, rn, rc⟩, c, (rtA c ri).2, rfl, A2, okC_wf k1.ok, T, _, _, rfl, (blkOf c.ws (rtA c ri).2).2.toNat + 1 + 1, ?_⟩
   have O := k1.old
   have b0 : 0 ≤ (blkOf c.ws (rtA c ri).2).1 := by
     rcases T.b with ⟨e, _⟩ | ⟨_, _, _, _, b5, _⟩
     · rw [e]; exact Int.le_refl _
     · exact b5.b0
   have on := O.n0
   exact lg_ok t h99 h123 h82 h46 (ri := ri) k1 gr O b0 (by rw [sm]; exact hf0) T.p0 T.p1 z1 z3 d3 n31 hQ (blkOf c.ws (rtA c ri).2).2.toNat 0 (by omega) c.ws 0 gr.init (by show 0 + aliveF c.ws _ _ ((0 : Nat) : Int) + 1 ≤ _; rw [show ((0 : Nat) : Int) = 0 from rfl]; omega) rfl m2 O2 im2 h32
 · rw [if_pos (by decide)]
   rw [if_neg (by decide)] at hQ
   exact (stT_ok im2 h32 z3 d3 O2 hQ : stT Q g1 g3 2 m2)
def s83 : Spec := fun args m Q => ∃ (s r : Sl) (b : Ar) (D : List Nat) (ri ki fi : Int), args = [vA s r b, .int .i64 ri, .int .i64 ki, .int .i64 fi] ∧ Wo m s r b D ∧ SkOk b ri ki fi ∧ (rtA b fi).1 ≠ 0 ∧
 ∀ m', (∀ b, b ∉ D → m' b = m b) → Wo m' s r (gkR b ri ki fi).1 D → Q (.tuple #[vA s r (gkR b ri ki fi).1, .int .i64 (gkR b ri ki fi).2]) m'
theorem f83 (t : Tab) (h99 : look t 99 = s99) (h123 : look t 123 = s123) (h82 : look t 82 = s82) (h46 : look t 46 = s46) (h45 : look t 45 = s45) (h120 : look t 120 = s120) : ∀ args m Q, s83 args m Q → FA Tryz.prog (look t) kp83 Tryz.f83 args m Q := by
 intro args m Q hh
 obtain ⟨s, r, a, D, ri, ki, fi, ha, hW, h, hf0, hQ⟩ := hh
 have ha : args = [aG s r a, .int .i64 ri, .int .i64 ki, .int .i64 fi] := ha
 rw [ha, e83]
 have T := h.tab
 have O := h.old
 have hw := okC_wf h.ok
 have o0 := O.n0
 have o1 := O.n1
 refine newA_intro fun g1 m1 hg1 e1 hb1 hle1 => newA_intro fun g3 m2 hg3 e2 hb3 hle2 => ?_
 have l2 := Mem.le_trans hle1 hle2
 have p1 : m2 g1 = some (.cells (cA s r a) 29 (0, 0)) := hle2 _ _ hb1
 have im := hW.loc hg1 p1 l2
 have n31 : g3 ≠ g1 := Ne.symm (ne_of_none hg3 hb1)
 have z3 := le_none hle1 hg3
 have d3 := hW.fresh z3
 have A2 := im.w.at
 have k2 := A2.k
 obtain ⟨l, hl⟩ : ∃ l, l = 1 + aliveF a.ws (blkOf a.ws (rtA a ri).2).1 (blkOf a.ws (rtA a ri).2).2.toNat 0 := ⟨_, rfl⟩
 have ar := aliveF_range a.ws (blkOf a.ws (rtA a ri).2).1 (blkOf a.ws (rtA a ri).2).2.toNat 0
 have ga := growN_all l
 refine ⟨Mem.le m2, Mem.le_refl _, _, _, _, held (cell_of im.p 0), _, held (cell_of im.p 1), _, held (cell_of im.p 2), _, held (cell_of im.p 3), _, held (cell_of im.p 4), _, held (cell_of im.p 5), _, held (cell_of im.p 6), _, held (cell_of im.p 7), _, held (cell_of im.p 8), _, _, _, held (cell_of im.p 9), _, _, _, held (cell_of im.p 9), rgetH A2.r k2 h.r0 (by have := h.r1; omega) fun ad had c1 c2 => ⟨_, fun q hq => c2 q (A2.r.le hq), ?_⟩⟩
 refine via h120 ⟨s, r, a, (rtA a ri).2, rfl, A2, hw, T, _, _, rfl, Mem.le_refl _, (blkOf a.ws (rtA a ri).2).2.toNat + 1, ?_⟩
 have bad : ∀ M, Off D m M → Im M g1 s r a D → M g3 = some (.cells zAr 29 (0, 0)) → growN l > 64 → stT Q g1 g3 1 M := fun M hO imM h3 hg => by
   have eg : gkR a ri ki fi = if growN l > 64 then (a, 1) else if (askA 3 (4 * growN l) a).2.2 = 0 then (rnA (askA 3 (4 * growN l) a).1 (askA 3 (4 * growN l) a).2.1 (growN l) ri ki fi l, 0) else ((askA 3 (4 * growN l) a).1, (askA 3 (4 * growN l) a).2.2) := by rw [hl]; rfl
   rw [eg, if_pos hg] at hQ
   exact stT_ok imM h3 z3 d3 hO hQ
 have size : ∀ (d : Nat) (x : Int), (d = 4 ∧ x = 4 ∨ d = 3 ∧ x = 8 ∨ d = 2 ∧ x = 16 ∨ d = 1 ∧ x = 32 ∨ d = 0 ∧ x = 64) → x ≤ growN l → ∀ M : Mem, Off D m M → Im M g1 s r a D → M g3 = some (.cells zAr 29 (0, 0)) → L83_9 (look t) (d + 1) Q ri ki fi g1 g3 l x M := by
   have w4 : IntKind.i64.wrap (4 * l) = 4 * l := w64 (by omega) (by omega)
   intro d
   induction d with
   | zero =>
     intro x hx hxl M hO imM h3
     have ex : x = 64 := by omega
     subst ex
     rw [l83_9]
     refine ⟨M, Mem.le_refl _, ?_⟩
     rw [if_neg (by decide), w4]
     by_cases c : growN l > 64
     · rw [if_pos (by rw [w64 (by omega) (by omega)]; simp; omega)]
       exact bad M hO imM h3 c
     · rw [if_neg (by rw [w64 (by omega) (by omega)]; simp; omega)]
       have e6 : (64 : Int) = growN l := by omega
       show lgA (look t) Q ri ki fi g1 g3 l 64 M
       rw [e6]
       exact lgA_ok t h99 h123 h82 h46 h45 h120 h hf0 hl c imM hO hg1 z3 d3 n31 h3 hQ
   | succ d ih =>
     intro x hx hxl M hO imM h3
     rw [l83_9]
     refine ⟨M, Mem.le_refl _, ?_⟩
     rw [if_pos (by simp; omega), w4, w64 (x := 3 * x) (by omega) (by omega)]
     by_cases c : x = growN l
     · rw [if_neg (by simp; omega), if_neg (by simp; omega)]
       show lgA (look t) Q ri ki fi g1 g3 l x M
       rw [c]
       exact lgA_ok t h99 h123 h82 h46 h45 h120 h hf0 hl (by omega) imM hO hg1 z3 d3 n31 h3 hQ
     · rw [if_pos (by simp; omega), w64 (x := 2 * x) (by omega) (by omega)]
       exact ih (2 * x) (by omega) (by omega) M hO imM h3
 obtain ⟨no, en⟩ : ∃ no, no = (blkOf a.ws (rtA a ri).2).2 := ⟨_, rfl⟩
 obtain ⟨b, eb⟩ : ∃ b, b = (blkOf a.ws (rtA a ri).2).1 := ⟨_, rfl⟩
 rw [← en, ← eb] at O hl ar ⊢
 rw [← en] at o0 o1
 have b0 : no = 0 ∨ 0 ≤ b ∧ b + 4 * no < a.ws.length := by
   refine O.b.imp id fun k => ?_
   have := h.ok.at k.1
   omega
 suffices live : ∀ (d i : Nat), (i : Int) + d = no → ∀ x : Int, 1 ≤ x → x + aliveF a.ws b d i = l → ∀ M : Mem, Mem.le m2 M → L83_4 (look t) (d + 1) Q ri ki fi g1 g3 b no x (i : Int) M from
   live no.toNat 0 (by omega) 1 (by decide) (by rw [hl]; rfl) m2 (Mem.le_refl _)
 intro d
 induction d with
 | zero =>
   intro i hi x x1 hx M hM
   rw [l83_4]
   refine ⟨M, Mem.le_refl _, ?_⟩
   rw [if_neg (by simp; omega)]
   have ex : x = l := by rw [← hx]; show x = x + 0; omega
   subst ex
   exact ⟨5, size 4 4 (.inl ⟨rfl, rfl⟩) (by omega) M (Off.of_le (Mem.le_trans l2 hM)) (im.le hM) (hM _ _ hb3)⟩
 | succ d ih =>
   intro i hi x x1 hx M hM
   obtain ⟨b00, bl⟩ := b0.resolve_left (by omega)
   have ar' := aliveF_range a.ws b (d + 1) i
   have imM := im.le hM
   have AM := imM.w.at
   have hn := hw.n
   obtain ⟨s1, s2, s3⟩ := O.src h.ok h.s (i := (i : Int)) (by omega) (by omega)
   have rk : readV a.ws (b + 1 + 4 * (i : Int)) = (valW a.ws (b + 1 + 4 * (i : Int)), true) := by unfold readV; rw [(h.ok.src s1).1]; rfl
   have rv : readV a.ws (b + 3 + 4 * (i : Int)) = (valW a.ws (b + 3 + 4 * (i : Int)), true) := by unfold readV; rw [(h.ok.src s2).1]; rfl
   have ei : IntKind.i64.wrap ((i : Int) + 1) = ((i + 1 : Nat) : Int) := wsucc (n := i + 1) (by omega) (by omega)
   have ci : ((i + 1 : Nat) : Int) = (i : Int) + 1 := by omega
   have er : aliveF a.ws b (d + 1) i = (if aliveB a.ws b i = true then 1 else 0) + aliveF a.ws b d ((i : Int) + 1) := rfl
   rw [l83_4]
   refine ⟨M, Mem.le_refl _, ?_⟩
   rw [if_pos (by simp; omega), ei, w64 (x := x + 1) (by omega) (by omega)]
   refine ⟨_, _, _, cell_of imM.p 0, _, cell_of imM.p 1, _, cell_of imM.p 2, _, cell_of imM.p 3, _, cell_of imM.p 4, _, cell_of imM.p 5, _, cell_of imM.p 6, _, cell_of imM.p 7, _, cell_of imM.p 8, _, _, _, cell_of imM.p 9, via h99 ⟨s, r, a, b, (i : Int), rfl, AM, hw, b00, by omega, by omega, _, _, rfl, ?_⟩⟩
   rw [rk]
   by_cases c1 : (valW a.ws (b + 1 + 4 * (i : Int))).1 = 0
   · rw [if_neg (by show ¬ ((valW a.ws (b + 1 + 4 * (i : Int))).1 != 0) = true; simp [c1])]
     have : aliveB a.ws b (i : Int) = false := by unfold aliveB; rw [c1]; rfl
     rw [this] at er
     exact ih (i + 1) (by omega) x x1 (by rw [ci]; simp at er; omega) M hM
   · rw [if_pos (by show ((valW a.ws (b + 1 + 4 * (i : Int))).1 != 0) = true; simp [c1])]
     refine ⟨_, _, _, cell_of imM.p 0, _, cell_of imM.p 1, _, cell_of imM.p 2, _, cell_of imM.p 3, _, cell_of imM.p 4, _, cell_of imM.p 5, _, cell_of imM.p 6, _, cell_of imM.p 7, _, cell_of imM.p 8, _, _, _, cell_of imM.p 9, via h123 ⟨s, r, a, b, (i : Int), rfl, AM, hw, b00, by omega, by omega, _, _, rfl, ?_⟩⟩
     rw [rv]
     by_cases c2 : (valW a.ws (b + 3 + 4 * (i : Int))).1 = 0
     · rw [if_neg (by show ¬ ((valW a.ws (b + 3 + 4 * (i : Int))).1 != 0) = true; simp [c2])]
       have : aliveB a.ws b (i : Int) = false := by unfold aliveB; rw [c2]; simp
       rw [this] at er
       exact ih (i + 1) (by omega) x x1 (by rw [ci]; simp at er; omega) M hM
     · rw [if_pos (by show ((valW a.ws (b + 3 + 4 * (i : Int))).1 != 0) = true; simp [c2])]
       have : aliveB a.ws b (i : Int) = true := by unfold aliveB; simp [c1, c2]
       rw [this] at er
       exact ih (i + 1) (by omega) (x + 1) (by omega) (by rw [ci]; simp at er; omega) M hM
def stR (Q : Value → Mem → Prop) (g3 : Nat) (y291 : Int) (m292 : Mem) : Prop :=
 (∃ (ra293 : Option Addr) (rn294 rc295 : Nat), (csK m292 g3 0 ra293 rn294 rc295 ∧ (∃ y297 : Int, (ciK m292 g3 1 y297 ∧ (∃ y299 : Int, (ciK m292 g3 2 y299 ∧ (∃ y301 : Int, (ciK m292 g3 3 y301 ∧ (∃ b303 : Bool, (cbK m292 g3 4 b303 ∧ (∃ y305 : Int, (ciK m292 g3 5 y305 ∧ (∃ y307 : Int, (ciK m292 g3 6 y307 ∧ (∃ y309 : Int, (ciK m292 g3 7 y309 ∧ (∃ y311 : Int, (ciK m292 g3 8 y311 ∧ (∃ (ra313 : Option Addr) (rn314 rc315 : Nat), (csK m292 g3 9 ra313 rn314 rc315 ∧ ret Q (.tuple #[(.agg #[(.slice ra293 rn294 rc295), (.int .i64 y297), (.int .i64 y299), (.int .i64 y301), (.bool b303), (.int .i64 y305), (.int .i64 y307), (.int .i64 y309), (.int .i64 y311), (.slice ra313 rn314 rc315)]), (.int .i64 y291)]) m292))))))))))))))))))))
theorem stR_ok {Q : Value → Mem → Prop} {g3 : Nat} {s r : Sl} {b : Ar} {D : List Nat} {M m0 : Mem} {k : Int} (im : Im M g3 s r b D) (hO : Off D m0 M) (hQ : ∀ m', (∀ b, b ∉ D → m' b = m0 b) → Wo m' s r b D → Q (.tuple #[vA s r b, .int .i64 k]) m') : stR Q g3 k M := by
 unfold stR
 exact ⟨_, _, _, cell_of im.p 0, _, cell_of im.p 1, _, cell_of im.p 2, _, cell_of im.p 3, _, cell_of im.p 4, _, cell_of im.p 5, _, cell_of im.p 6, _, cell_of im.p 7, _, cell_of im.p 8, _, _, _, cell_of im.p 9, ret_off hO (hQ _ (fun b hb => mix_off hb) (Wo.mix im.w))⟩
def s50 : Spec := fun args m Q => ∃ (s r : Sl) (a : Ar) (D : List Nat) (ri ki fi : Int), args = [vA s r a, .int .i64 ri, .int .i64 ki, .int .i64 fi] ∧ Wo m s r a D ∧ SkOk a ri ki fi ∧
 ∀ m', (∀ b, b ∉ D → m' b = m b) → Wo m' s r (skR a ri ki fi).1 D → Q (.tuple #[vA s r (skR a ri ki fi).1, .int .i64 (skR a ri ki fi).2]) m'
theorem f50 (t : Tab) (h81 : look t 81 = s81) (h82 : look t 82 = s82) (h46 : look t 46 = s46) (h71 : look t 71 = s71) (h83 : look t 83 = s83) : ∀ args m Q, s50 args m Q → FA Tryz.prog (look t) kp50 Tryz.f50 args m Q := by
 intro args m Q hh
 obtain ⟨s, r, a, D, ri, ki, fi, ha, hW, h, hQ⟩ := hh
 have ha : args = [aG s r a, .int .i64 ri, .int .i64 ki, .int .i64 fi] := ha
 rw [ha, e50]
 obtain ⟨wa, wn, wc⟩ := s
 obtain ⟨ra, rn, rc⟩ := r
 obtain ⟨hb, L, ert⟩ := h.load
 refine newA_intro fun g1 m1 hg1 e1 hb1 hle1 => newA_intro fun g3 m2 hg3 e2 hb3 hle2 => ?_
 have l2 := Mem.le_trans hle1 hle2
 have p1 : m2 g1 = some (.cells (cA ⟨wa, wn, wc⟩ ⟨ra, rn, rc⟩ a) 29 (0, 0)) := hle2 _ _ hb1
 have im := hW.loc hg1 p1 l2
 have n13 : g1 ≠ g3 := ne_of_none hg3 hb1
 have n31 := Ne.symm n13
 have z3 := le_none hle1 hg3
 have d3 := hW.fresh z3
 refine ⟨_, _, _, cell_of im.p 0, _, cell_of im.p 1, _, cell_of im.p 2, _, cell_of im.p 3, _, cell_of im.p 4, _, cell_of im.p 5, _, cell_of im.p 6, _, cell_of im.p 7, _, cell_of im.p 8, _, _, _, cell_of im.p 9, via h81 ⟨⟨wa, wn, wc⟩, ⟨ra, rn, rc⟩, a, D, ri, ki, fi, rfl, im.w, h, fun m3 o3 w3 => ⟨_, _, _, _, _, _, _, _, _, _, _, _, _, _, _, _, rfl, ?_⟩⟩⟩
 have hQ : ∀ m', (∀ b, b ∉ D → m' b = m b) → Wo m' ⟨wa, wn, wc⟩ ⟨ra, rn, rc⟩ (skB (ldA a ((rtA a ri).2 + 2)) ri ki fi).1 D → Q (.tuple #[vA ⟨wa, wn, wc⟩ ⟨ra, rn, rc⟩ (skB (ldA a ((rtA a ri).2 + 2)) ri ki fi).1, .int .i64 (skB (ldA a ((rtA a ri).2 + 2)) ri ki fi).2]) m' := hQ
 obtain ⟨b, eb⟩ : ∃ b, b = ldA a ((rtA a ri).2 + 2) := ⟨_, rfl⟩
 rw [← eb] at hb w3 hQ ⊢
 refine put_all ((o3 g1 im.g).trans im.p) w3 im.g fun m4 o4 im4 => ?_
 have O4 : Off D m m4 := ((Off.of_le l2).trans (Off.of_eq o3)).fresh hg1 o4
 have h34 : m4 g3 = some (.cells zAr 29 (0, 0)) := by rw [o4 g3 n31, o3 g3 d3]; exact hb3
 have A4 := im4.w.at
 have k4 := A4.k
 have hwb := okC_wf hb.ok
 have hn := hwb.n
 have T := hb.tab
 have Ob := hb.old
 have o0 := Ob.n0
 have o1 := Ob.n1
 have us := hb.u _ hb.root.2 hb.kd
 have t0 := T.p0
 have t1 := T.p1
 have h0 := hash_nn hwb hb.keyOk
 have eS : skB b ri ki fi = (if (findA b.ws (blkOf b.ws (rtA b ri).2).1 (blkOf b.ws (rtA b ri).2).2 (rtA b ki)).2 = true then (putV b ((blkOf b.ws (rtA b ri).2).1 + 3 + 4 * (findA b.ws (blkOf b.ws (rtA b ri).2).1 (blkOf b.ws (rtA b ri).2).2 (rtA b ki)).1) (rtA b fi), 0)
   else if (rtA b fi).1 = 0 then (b, 0)
   else if 4 * (gw b.ws ((rtA b ri).2 + 1) + 1) > 3 * (blkOf b.ws (rtA b ri).2).2 then gkR b ri ki fi
   else ({ b with ws := setW (layW (blkOf b.ws (rtA b ri).2).1 (blkOf b.ws (rtA b ri).2).2 b.ws (rtA b ki) (rtA b fi)) ((rtA b ri).2 + 1) (uW (gw b.ws ((rtA b ri).2 + 1) + 1)) }, 0)) := rfl
 have hFd : (blkOf b.ws (rtA b ri).2).2 = 0 ∨ BlkOk b (blkOf b.ws (rtA b ri).2).1 (blkOf b.ws (rtA b ri).2).2 ∧ ((rtA b ki).1 = 0 ∨ KeyOk b (rtA b ki)) := by
   rcases T.b with ⟨e, _⟩ | ⟨_, _, _, _, b5, _⟩
   · rw [e]; exact .inl rfl
   · exact .inr ⟨b5, .inr hb.keyOk⟩
 have bnd : 0 < (blkOf b.ws (rtA b ri).2).2 → 1 ≤ (blkOf b.ws (rtA b ri).2).1 ∧ (blkOf b.ws (rtA b ri).2).1 + 4 * (blkOf b.ws (rtA b ri).2).2 < b.ws.length ∧ ((rtA b ri).2 + 4 ≤ (blkOf b.ws (rtA b ri).2).1 ∨ (blkOf b.ws (rtA b ri).2).1 + 4 * (blkOf b.ws (rtA b ri).2).2 + 1 ≤ (rtA b ri).2) := fun hp => by
   obtain ⟨q1, q2, q3, q4⟩ := Ob.b.resolve_left (by omega)
   have := hb.ok.at q1
   have nap := hb.ok.apart hb.root.2 q1 (fun e => by have h2 := hb.kd; rw [e, q2] at h2; cases h2)
   rw [T.sz, q3] at nap
   omega
 obtain ⟨tb, etb⟩ : ∃ tb, tb = (rtA b ri).2 := ⟨_, rfl⟩
 have etb' : (b.rs.getD ri.toNat (0, 0)).2 = tb := by rw [etb]; rfl
 rw [← etb] at T Ob o0 o1 us t0 t1 eS hFd bnd ⊢
 obtain ⟨n, en⟩ : ∃ n, n = (blkOf b.ws tb).2 := ⟨_, rfl⟩
 obtain ⟨bk, ebk⟩ : ∃ bk, bk = (blkOf b.ws tb).1 := ⟨_, rfl⟩
 rw [← en, ← ebk] at us eS hFd bnd
 rw [← en] at o0 o1
 rw [← en, ← ebk]
 refine ⟨Mem.le m4, Mem.le_refl _, _, _, _, held (cell_of im4.p 0), _, held (cell_of im4.p 1), _, held (cell_of im4.p 2), _, held (cell_of im4.p 3), _, held (cell_of im4.p 4), _, held (cell_of im4.p 5), _, held (cell_of im4.p 6), _, held (cell_of im4.p 7), _, held (cell_of im4.p 8), _, _, _, held (cell_of im4.p 9), _, _, _, held (cell_of im4.p 9), rgetH A4.r k4 hb.k0 (by have := hb.k1; omega) fun ad had c1 c2 => ⟨_, fun q hq => c1 q (A4.r.le hq), _, fun q hq => c2 q (A4.r.le hq), ?_⟩⟩
 refine via h82 ⟨⟨wa, wn, wc⟩, ⟨ra, rn, rc⟩, b, bk, n, rtA b ki, rfl, A4, hwb, hFd, _, _, rfl, Mem.le_refl _, ?_⟩
 have hF := find_yes (ws := b.ws) (n := n) (b := bk) o0 h0
 have hR := find_room (n := n) (b := bk) (ws := b.ws) (key := rtA b ki)
 have w3' : ∀ e : Int, 0 ≤ e → e < n → IntKind.i64.wrap (IntKind.i64.wrap (bk + 3) + IntKind.i64.wrap (4 * e)) = bk + 3 + 4 * e := fun e e0 e1 => by have := bnd (by omega); rw [w64 (x := bk + 3) (by omega) (by omega), w64 (x := 4 * e) (by omega) (by omega), w64 (by omega) (by omega)]
 have w1' : ∀ e : Int, 0 ≤ e → e < n → IntKind.i64.wrap (IntKind.i64.wrap (bk + 1) + IntKind.i64.wrap (4 * e)) = bk + 1 + 4 * e := fun e e0 e1 => by have := bnd (by omega); rw [w64 (x := bk + 1) (by omega) (by omega), w64 (x := 4 * e) (by omega) (by omega), w64 (by omega) (by omega)]
 show if (findA b.ws bk n (rtA b ki)).2 = true then _ else _
 by_cases ce : (findA b.ws bk n (rtA b ki)).2 = true
 · rw [if_pos ce]
   rw [if_pos ce] at eS
   obtain ⟨f2, f0, f1⟩ := hF ce
   obtain ⟨e, ee⟩ : ∃ e, e = (findA b.ws bk n (rtA b ki)).1 := ⟨_, rfl⟩
   rw [← ee] at f0 f1 eS
   have bd := bnd f2
   rw [eS] at hQ
   refine ⟨fun q => q g1 = m4 g1 ∧ Rd q ra b.rs, ⟨rfl, A4.r⟩, _, _, _, fun q hq => cell_of (hq.1.trans im4.p) 0, _, fun q hq => cell_of (hq.1.trans im4.p) 1, _, fun q hq => cell_of (hq.1.trans im4.p) 2, _, fun q hq => cell_of (hq.1.trans im4.p) 3, _, fun q hq => cell_of (hq.1.trans im4.p) 4, _, fun q hq => cell_of (hq.1.trans im4.p) 5, _, fun q hq => cell_of (hq.1.trans im4.p) 6, _, fun q hq => cell_of (hq.1.trans im4.p) 7, _, fun q hq => cell_of (hq.1.trans im4.p) 8, _, _, _, fun q hq => cell_of (hq.1.trans im4.p) 9, _, _, _, fun q hq => cell_of (hq.1.trans im4.p) 9, rgetH A4.r k4 hb.f0 (by have := hb.f1; omega) fun ad had c1 c2 => ⟨_, fun q hq => c1 q hq.2, _, fun q hq => c2 q hq.2, ?_⟩⟩
   refine via h46 ⟨⟨wa, wn, wc⟩, ⟨ra, rn, rc⟩, b, D, bk + 3 + 4 * e, rtA b fi, by rw [← w3' e f0 f1, ee]; rfl, im4.w, by omega, by omega, hn, fun m5 o5 w5 => ⟨_, _, _, _, _, _, _, _, _, _, _, _, _, _, rfl, ⟨o5 g1 im4.g, w5.at.r⟩, ?_⟩⟩
   refine sto_ar ((o5 g3 d3).trans h34) fun m6 e6 q6 ne6 => ⟨⟨(ne6 g1 n13).trans (o5 g1 im4.g), (w5.ext fun q hq => ne6 q fun e => d3 (e ▸ hq)).at.r⟩, ?_⟩
   have p6 : Ptr m6 g3 ⟨wa, wn, wc⟩ ⟨ra, rn, rc⟩ (putV b (bk + 3 + 4 * e) (rtA b fi)) := q6
   exact (stR_ok ⟨p6, w5.ext fun q hq => ne6 q fun e => d3 (e ▸ hq), d3⟩ ((O4.trans (Off.of_eq o5)).fresh z3 ne6) hQ : stR Q g3 0 m6)
 rw [if_neg ce]
 rw [if_neg ce] at eS
 refine ⟨_, _, _, cell_of im4.p 9, rget A4.r k4 hb.f0 (by have := hb.f1; omega) fun ad had c1 c2 => ⟨_, c1, ?_⟩⟩
 by_cases c0 : (rtA b fi).1 = 0
 · rw [if_pos (by show ((rtA b fi).1 == 0) = true; simpa using c0)]
   rw [if_pos c0] at eS
   rw [eS] at hQ
   exact (stT_ok im4 h34 z3 d3 O4 hQ : stT Q g1 g3 0 m4)
 rw [if_neg (by show ¬ ((rtA b fi).1 == 0) = true; simpa using c0)]
 rw [if_neg c0] at eS
 refine ⟨_, _, _, cell_of im4.p 9, rget A4.r k4 hb.r0 (by have := hb.r1; omega) fun ad had c1 c2 => ⟨_, c2, _, _, _, cell_of im4.p 0, _, cell_of im4.p 1, _, cell_of im4.p 2, _, cell_of im4.p 3, _, cell_of im4.p 4, _, cell_of im4.p 5, _, cell_of im4.p 6, _, cell_of im4.p 7, _, cell_of im4.p 8, _, _, _, cell_of im4.p 9, ?_⟩⟩
 rw [etb']
 obtain ⟨u, eu⟩ : ∃ u, u = gw b.ws (tb + 1) := ⟨_, rfl⟩
 rw [← eu] at us eS
 have ur := usedW_range b.ws bk n.toNat
 obtain ⟨us1, us2⟩ := us
 have wu : wordW b.ws tb 1 = u := by unfold wordW; rw [← eu]; exact w64 (by omega) (by omega)
 refine via h71 ⟨⟨wa, wn, wc⟩, ⟨ra, rn, rc⟩, b, tb, 1, rfl, A4, hwb, by omega, by omega, by omega, _, rfl, ?_⟩
 rw [wu, w64 (x := u + 1) (by omega) (by omega), w64 (x := 4 * (u + 1)) (by omega) (by omega), w64 (x := 3 * n) (by omega) (by omega)]
 by_cases cr : 4 * (u + 1) > 3 * n
 · rw [if_pos (by simpa using cr)]
   rw [if_pos cr] at eS
   rw [eS] at hQ
   refine ⟨_, _, _, cell_of im4.p 0, _, cell_of im4.p 1, _, cell_of im4.p 2, _, cell_of im4.p 3, _, cell_of im4.p 4, _, cell_of im4.p 5, _, cell_of im4.p 6, _, cell_of im4.p 7, _, cell_of im4.p 8, _, _, _, cell_of im4.p 9, via h83 ⟨⟨wa, wn, wc⟩, ⟨ra, rn, rc⟩, b, D, ri, ki, fi, rfl, im4.w, hb, c0, fun m5 o5 w5 => ⟨_, _, _, _, _, _, _, _, _, _, _, _, _, _, _, rfl, ?_⟩⟩⟩
   refine sto_ar ((o5 g3 d3).trans h34) fun m6 e6 q6 ne6 => ?_
   have p6 : Ptr m6 g3 ⟨wa, wn, wc⟩ ⟨ra, rn, rc⟩ (gkR b ri ki fi).1 := q6
   exact (stR_ok ⟨p6, w5.ext fun q hq => ne6 q fun e => d3 (e ▸ hq), d3⟩ ((O4.trans (Off.of_eq o5)).fresh z3 ne6) hQ : stR Q g3 (gkR b ri ki fi).2 m6)
 · rw [if_neg (by simpa using cr)]
   rw [if_neg cr] at eS
   obtain ⟨f0, f1⟩ := hR (by omega) h0 hb.kn (by rw [← us1]; omega)
   have bd := bnd (by omega)
   unfold layW at eS
   obtain ⟨e, ee⟩ : ∃ e, e = (findA b.ws bk n (rtA b ki)).1 := ⟨_, rfl⟩
   rw [← ee] at f0 f1 eS
   have w1 : IntKind.i64.wrap (tb + 1) = tb + 1 := w64 (by omega) (by omega)
   rw [if_neg (by rw [← ee]; simp; omega), w1]
   refine ⟨_, _, _, cell_of im4.p 0, im4.put_w (by omega) (by omega) fun m5 o5 im5 => ?_⟩
   have A5 := im5.w.at
   have k5 := A5.k
   have eC : { b with ws := setW (setW (setW (setW (setW b.ws (bk + 1 + 4 * e) (uW (rtA b ki).1)) (bk + 1 + 4 * e + 1) (uW (rtA b ki).2)) (bk + 3 + 4 * e) (uW (rtA b fi).1)) (bk + 3 + 4 * e + 1) (uW (rtA b fi).2)) (tb + 1) (uW (u + 1)) } = putV (putV { b with ws := setW b.ws (tb + 1) (IntKind.u64.wrap (u + 1)) } (bk + 1 + 4 * e) (rtA b ki)) (bk + 3 + 4 * e) (rtA b fi) := by
     unfold putV
     simp only
     rw [setW_comm (i := bk + 3 + 4 * e + 1) (by omega) (by omega) (by omega), setW_comm (i := bk + 3 + 4 * e) (j := tb + 1) (by omega) (by omega) (by omega), setW_comm (i := bk + 1 + 4 * e + 1) (j := tb + 1) (by omega) (by omega) (by omega), setW_comm (i := bk + 1 + 4 * e) (j := tb + 1) (by omega) (by omega) (by omega)]
     rfl
   rw [eC] at eS
   rw [eS] at hQ
   obtain ⟨b', eb'⟩ : ∃ b', b' = { b with ws := setW b.ws (tb + 1) (IntKind.u64.wrap (u + 1)) } := ⟨_, rfl⟩
   have br : b'.rs = b.rs := by rw [eb']
   have bl : b'.ws.length = b.ws.length := by rw [eb']; exact setW_len _ _ _
   rw [← eb'] at hQ im5 A5 k5
   have R5 : Rd m5 ra b.rs := by have := A5.r; rw [br] at this; exact this
   have kr : b.rs.length = rn := by rw [← br]; exact k5
   refine ⟨fun q => q g1 = m5 g1 ∧ Rd q ra b.rs, ⟨rfl, R5⟩, _, _, _, fun q hq => cell_of (hq.1.trans im5.p) 0, _, fun q hq => cell_of (hq.1.trans im5.p) 1, _, fun q hq => cell_of (hq.1.trans im5.p) 2, _, fun q hq => cell_of (hq.1.trans im5.p) 3, _, fun q hq => cell_of (hq.1.trans im5.p) 4, _, fun q hq => cell_of (hq.1.trans im5.p) 5, _, fun q hq => cell_of (hq.1.trans im5.p) 6, _, fun q hq => cell_of (hq.1.trans im5.p) 7, _, fun q hq => cell_of (hq.1.trans im5.p) 8, _, _, _, fun q hq => cell_of (hq.1.trans im5.p) 9, _, _, _, fun q hq => cell_of (hq.1.trans im5.p) 9, rgetH R5 kr hb.k0 (by have := hb.k1; omega) fun ad had c1 c2 => ⟨_, fun q hq => c1 q hq.2, _, fun q hq => c2 q hq.2, ?_⟩⟩
   refine via h46 ⟨⟨wa, wn, wc⟩, ⟨ra, rn, rc⟩, b', D, bk + 1 + 4 * e, rtA b ki, by rw [← w1' e f0 f1, ee, eb']; rfl, im5.w, by omega, by omega, by omega, fun m6 o6 w6 => ⟨_, _, _, _, _, _, _, _, _, _, _, _, _, _, rfl, ⟨o6 g1 im5.g, by have := w6.at.r; exact br ▸ this⟩, ?_⟩⟩
   refine put_all ((o6 g1 im5.g).trans im5.p) w6 im5.g fun m7 o7 im7 => ?_
   have R7 : Rd m7 ra b.rs := by have := im7.w.at.r; exact br ▸ this
   refine ⟨fun q => q g1 = m7 g1 ∧ Rd q ra b.rs, ⟨rfl, R7⟩, _, _, _, fun q hq => cell_of (hq.1.trans im7.p) 0, _, fun q hq => cell_of (hq.1.trans im7.p) 1, _, fun q hq => cell_of (hq.1.trans im7.p) 2, _, fun q hq => cell_of (hq.1.trans im7.p) 3, _, fun q hq => cell_of (hq.1.trans im7.p) 4, _, fun q hq => cell_of (hq.1.trans im7.p) 5, _, fun q hq => cell_of (hq.1.trans im7.p) 6, _, fun q hq => cell_of (hq.1.trans im7.p) 7, _, fun q hq => cell_of (hq.1.trans im7.p) 8, _, _, _, fun q hq => cell_of (hq.1.trans im7.p) 9, _, _, _, fun q hq => cell_of (hq.1.trans im7.p) 9, rgetH R7 kr hb.f0 (by have := hb.f1; omega) fun ad had c1 c2 => ⟨_, fun q hq => c1 q hq.2, _, fun q hq => c2 q hq.2, ?_⟩⟩
   refine via h46 ⟨⟨wa, wn, wc⟩, ⟨ra, rn, rc⟩, putV b' (bk + 1 + 4 * e) (rtA b ki), D, bk + 3 + 4 * e, rtA b fi, by rw [← w3' e f0 f1, ee]; rfl, im7.w, by omega, by rw [put_len]; omega, by rw [put_len]; omega, fun m8 o8 w8 => ⟨_, _, _, _, _, _, _, _, _, _, _, _, _, _, rfl, ⟨o8 g1 im7.g, by have := w8.at.r; exact br ▸ this⟩, ?_⟩⟩
   have h38 : m8 g3 = some (.cells zAr 29 (0, 0)) := by rw [o8 g3 d3, o7 g3 n31, o6 g3 d3, o5 g3 d3]; exact h34
   refine sto_ar h38 fun m9 e9 q9 ne9 => ⟨⟨(ne9 g1 n13).trans (o8 g1 im7.g), by have := (w8.ext fun q hq => ne9 q fun e => d3 (e ▸ hq)).at.r; exact br ▸ this⟩, ?_⟩
   have p9 : Ptr m9 g3 ⟨wa, wn, wc⟩ ⟨ra, rn, rc⟩ (putV (putV b' (bk + 1 + 4 * e) (rtA b ki)) (bk + 3 + 4 * e) (rtA b fi)) := q9
   have O9 : Off D m m9 := (((((O4.trans (Off.of_eq o5)).trans (Off.of_eq o6)).fresh hg1 o7).trans (Off.of_eq o8)).fresh z3 ne9)
   exact (stR_ok ⟨p9, w8.ext fun q hq => ne9 q fun e => d3 (e ▸ hq), d3⟩ O9 hQ : stR Q g3 0 m9)
def ksB (call : FuncId → Spec) (Q : Value → Mem → Prop) (g1 g3 : Nat) (m563 : Mem) : Prop :=
 (∃ (ra564 : Option Addr) (rn565 rc566 : Nat), (csK m563 g1 0 ra564 rn565 rc566 ∧ (∃ y568 : Int, (ciK m563 g1 1 y568 ∧ (∃ y570 : Int, (ciK m563 g1 2 y570 ∧ (∃ y572 : Int, (ciK m563 g1 3 y572 ∧ (∃ b574 : Bool, (cbK m563 g1 4 b574 ∧ (∃ y576 : Int, (ciK m563 g1 5 y576 ∧ (∃ y578 : Int, (ciK m563 g1 6 y578 ∧ (∃ y580 : Int, (ciK m563 g1 7 y580 ∧ (∃ y582 : Int, (ciK m563 g1 8 y582 ∧ (∃ (ra584 : Option Addr) (rn585 rc586 : Nat), (csK m563 g1 9 ra584 rn585 rc586 ∧ (call 27 [(.agg #[(.slice ra564 rn565 rc566), (.int .i64 y568), (.int .i64 y570), (.int .i64 y572), (.bool b574), (.int .i64 y576), (.int .i64 y578), (.int .i64 y580), (.int .i64 y582), (.slice ra584 rn585 rc586)])] m563 fun v588 m589 => (∃ (ra590 : Option Addr) (rn591 rc592 : Nat), (∃ y593 : Int, (∃ y594 : Int, (∃ y595 : Int, (∃ b596 : Bool, (∃ y597 : Int, (∃ y598 : Int, (∃ y599 : Int, (∃ y600 : Int, (∃ (ra601 : Option Addr) (rn602 rc603 : Nat), (v588 = (.agg #[(.slice ra590 rn591 rc592), (.int .i64 y593), (.int .i64 y594), (.int .i64 y595), (.bool b596), (.int .i64 y597), (.int .i64 y598), (.int .i64 y599), (.int .i64 y600), (.slice ra601 rn602 rc603)]) ∧ (stoA m589 ⟨g3, 0, none⟩ [(.slice ra590 rn591 rc592), (.int .i64 y593), (.int .i64 y594), (.int .i64 y595), (.bool b596), (.int .i64 y597), (.int .i64 y598), (.int .i64 y599), (.int .i64 y600), (.slice ra601 rn602 rc603)] fun m604 => (∃ (ra605 : Option Addr) (rn606 rc607 : Nat), (csK m604 g3 0 ra605 rn606 rc607 ∧ (∃ y609 : Int, (ciK m604 g3 1 y609 ∧ (∃ y611 : Int, (ciK m604 g3 2 y611 ∧ (∃ y613 : Int, (ciK m604 g3 3 y613 ∧ (∃ b615 : Bool, (cbK m604 g3 4 b615 ∧ (∃ y617 : Int, (ciK m604 g3 5 y617 ∧ (∃ y619 : Int, (ciK m604 g3 6 y619 ∧ (∃ y621 : Int, (ciK m604 g3 7 y621 ∧ (∃ y623 : Int, (ciK m604 g3 8 y623 ∧ (∃ (ra625 : Option Addr) (rn626 rc627 : Nat), (csK m604 g3 9 ra625 rn626 rc627 ∧ ret Q (.tuple #[(.agg #[(.slice ra605 rn606 rc607), (.int .i64 y609), (.int .i64 y611), (.int .i64 y613), (.bool b615), (.int .i64 y617), (.int .i64 y619), (.int .i64 y621), (.int .i64 y623), (.slice ra625 rn626 rc627)]), (.int .i64 (1 : Int))]) m604)))))))))))))))))))))))))))))))))))))))))))))))))))))
theorem ksB_ok (t : Tab) (h27 : look t 27 = s27) {Q : Value → Mem → Prop} {g1 g3 : Nat} {s r : Sl} {a : Ar} {M m : Mem} (p : Ptr M g1 s r a) (hA : ArAt M s r a) (hw : a.wf) (h3 : M g3 = some (.cells zAr 29 (0, 0))) (z3 : m g3 = none) {D0 : List Nat} (hD0 : ∀ b ∈ D0, m b = none) (hO : Off D0 m M) (hd3 : g3 ∉ D0)
   (hQ : ncK m (a, 1) Q) : ksB (look t) Q g1 g3 M := by
 unfold ksB
 refine ⟨_, _, _, cell_of p 0, _, cell_of p 1, _, cell_of p 2, _, cell_of p 3, _, cell_of p 4, _, cell_of p 5, _, cell_of p 6, _, cell_of p 7, _, cell_of p 8, _, _, _, cell_of p 9, via h27 ⟨s, r, a, rfl, hA, hw, fun s' r' D m3 l3 w3 f3 => ⟨_, _, _, _, _, _, _, _, _, _, _, _, _, _, rfl, ?_⟩⟩⟩
 obtain ⟨wa, wn, wc⟩ := s'
 obtain ⟨ra, rn, rc⟩ := r'
 have d3 : g3 ∉ D := fun h => by have := f3 g3 h; rw [h3] at this; cases this
 refine sto_ar (l3 _ _ h3) fun m4 e4 q4 ne4 => ?_
 have p4 : Ptr m4 g3 ⟨wa, wn, wc⟩ ⟨ra, rn, rc⟩ a := q4
 refine ⟨_, _, _, cell_of p4 0, _, cell_of p4 1, _, cell_of p4 2, _, cell_of p4 3, _, cell_of p4 4, _, cell_of p4 5, _, cell_of p4 6, _, cell_of p4 7, _, cell_of p4 8, _, _, _, cell_of p4 9, ?_⟩
 have hD : ∀ b ∈ D, m b = none := fun b hb => by
   cases e : m b with
   | none => rfl
   | some o =>
     by_cases h0 : b ∈ D0
     · rw [hD0 b h0] at e; cases e
     · have := hO b o h0 e; rw [f3 b hb] at this; cases this
 have O4 : Off (D0 ++ D) m m4 := fun x o hx e => by
   have hx0 : x ∉ D0 := fun h => hx (by simp [h])
   have x3 : x ≠ g3 := fun h => by rw [h, z3] at e; cases e
   rw [ne4 x x3]
   exact l3 _ _ (hO x o hx0 e)
 refine ⟨mixM D m m4, ?_, hQ ⟨wa, wn, wc⟩ ⟨ra, rn, rc⟩ D (mixM D m m4) (le_new (fun b hb => mix_off hb) hD) ((w3.ext fun q hq => ne4 q fun e => d3 (e ▸ hq)).ext fun b hb => mix_in hb) hD⟩
 intro b o e
 by_cases hb : b ∈ D
 · rwa [mix_in hb] at e
 · rw [mix_off hb] at e
   have hb0 : b ∉ D0 := fun h => by rw [hD0 b h] at e; cases e
   exact O4 b o (by simp [hb, hb0]) e
def s21 : Spec := fun args m Q => ∃ (s r : Sl) (a : Ar) (ri ki fi : Int), args = [vA s r a, .int .i64 ri, .int .i64 ki, .int .i64 fi] ∧ ArAt m s r a ∧ a.wf ∧ ncK m (skA a ri ki fi) Q
theorem f21 (t : Tab) (h27 : look t 27 = s27) (h25 : look t 25 = s25) (h26 : look t 26 = s26) (h49 : look t 49 = s49) (h50 : look t 50 = s50) : ∀ args m Q, s21 args m Q → FA Tryz.prog (look t) kp21 Tryz.f21 args m Q := by
 intro args m Q hh
 obtain ⟨s, r, a, ri, ki, fi, ha, hA, hw, hQ⟩ := hh
 have ha : args = [aG s r a, .int .i64 ri, .int .i64 ki, .int .i64 fi] := ha
 rw [ha, e21]
 refine newA_intro fun g1 m1 hg1 e1 hb1 hle1 => newA_intro fun g3 m2 hg3 e2 hb3 hle2 => ?_
 have l2 := Mem.le_trans hle1 hle2
 have p1 : Ptr m2 g1 s r a := hle2 _ _ hb1
 have n13 : g1 ≠ g3 := ne_of_none hg3 hb1
 have z3 := le_none hle1 hg3
 refine ⟨_, _, _, cell_of p1 0, _, cell_of p1 1, _, cell_of p1 2, _, cell_of p1 3, _, cell_of p1 4, _, cell_of p1 5, _, cell_of p1 6, _, cell_of p1 7, _, cell_of p1 8, _, _, _, cell_of p1 9, via h27 ⟨s, r, a, rfl, hA.le l2, hw, fun s' r' D m3 l3 w3 f3 => ⟨_, _, _, _, _, _, _, _, _, _, _, _, _, _, rfl, ?_⟩⟩⟩
 have hD : ∀ b ∈ D, m b = none := fun b hb => le_none l2 (f3 b hb)
 have d3 : g3 ∉ D := fun h => by have := f3 g3 h; rw [hb3] at this; cases this
 have d1 : g1 ∉ D := fun h => by have := f3 g1 h; rw [p1] at this; cases this
 refine newA_intro fun g5 m4 hg5 e4 hb5 hle4 => ?_
 obtain ⟨wa, wn, wc⟩ := s'
 obtain ⟨ra, rn, rc⟩ := r'
 refine sto_ar hb5 fun m5 e5 q5 ne5 => ?_
 have p5 : Ptr m5 g5 ⟨wa, wn, wc⟩ ⟨ra, rn, rc⟩ a := q5
 have l5 : Mem.le m3 m5 := le_other hle4 hg5 ne5
 have im5 : Im m5 g5 ⟨wa, wn, wc⟩ ⟨ra, rn, rc⟩ a D := ⟨p5, w3.le l5, w3.fresh hg5⟩
 have L5 := Mem.le_trans (Mem.le_trans l2 l3) l5
 have p15 : Ptr m5 g1 s r a := l5 _ _ (l3 _ _ p1)
 have h35 := l5 _ _ (l3 _ _ hb3)
 have A5 := hA.le L5
 have k5 := A5.k
 have bad : skA a ri ki fi = (a, 1) → stT Q g5 g3 1 m5 := fun eA => by
   rw [eA] at hQ
   exact ret_nc im5 h35 z3 d3 (Off.of_le L5) hD hQ
 refine ⟨_, _, _, cell_of p15 0, _, cell_of p15 1, _, cell_of p15 2, _, cell_of p15 3, _, cell_of p15 4, _, cell_of p15 5, _, cell_of p15 6, _, cell_of p15 7, _, cell_of p15 8, _, _, _, cell_of p15 9, via h25 ⟨s, r, a, rfl, A5, hw, _, rfl, ?_⟩⟩
 by_cases hk : okP a
 case neg =>
   rw [pB_no hk, if_pos (by decide)]
   exact bad (if_neg fun h => hk h.1)
 rw [pB_yes hk, if_neg (by decide)]
 refine ⟨_, _, _, cell_of p15 0, _, cell_of p15 1, _, cell_of p15 2, _, cell_of p15 3, _, cell_of p15 4, _, cell_of p15 5, _, cell_of p15 6, _, cell_of p15 7, _, cell_of p15 8, _, _, _, cell_of p15 9, via h49 ⟨s, r, a, ri, rfl, A5, hw, _, rfl, ?_⟩⟩
 by_cases h4 : (0 ≤ ri ∧ ri < a.rs.length) ∧ (rtA a ri).1 = 4
 case neg =>
   rw [pB_no h4, if_pos (by decide)]
   exact bad (if_neg fun h => h4 h.2.1)
 rw [pB_yes h4, if_neg (by decide)]
 refine ⟨_, _, _, cell_of p15 0, _, cell_of p15 1, _, cell_of p15 2, _, cell_of p15 3, _, cell_of p15 4, _, cell_of p15 5, _, cell_of p15 6, _, cell_of p15 7, _, cell_of p15 8, _, _, _, cell_of p15 9, via h26 ⟨s, r, a, ki, rfl, A5, hw, _, rfl, ?_⟩⟩
 by_cases hki : 0 ≤ ki ∧ ki < a.rs.length
 case neg =>
   rw [decide_eq_false hki, if_pos (by decide)]
   exact bad (if_neg fun h => hki h.2.2.1)
 rw [decide_eq_true hki, if_neg (by decide)]
 refine ⟨_, _, _, cell_of p15 0, _, cell_of p15 1, _, cell_of p15 2, _, cell_of p15 3, _, cell_of p15 4, _, cell_of p15 5, _, cell_of p15 6, _, cell_of p15 7, _, cell_of p15 8, _, _, _, cell_of p15 9, via h26 ⟨s, r, a, fi, rfl, A5, hw, _, rfl, ?_⟩⟩
 by_cases hf : 0 ≤ fi ∧ fi < a.rs.length
 case neg =>
   rw [decide_eq_false hf, if_pos (by decide)]
   exact bad (if_neg fun h => hf h.2.2.2.1)
 rw [decide_eq_true hf, if_neg (by decide)]
 refine ⟨_, _, _, cell_of p15 9, rget A5.r k5 hki.1 (by omega) fun ad had c1 c2 => ⟨_, c1, ?_⟩⟩
 by_cases hk0 : (rtA a ki).1 = 0
 · rw [if_pos (by show ((rtA a ki).1 == 0) = true; simp [hk0])]
   exact bad (if_neg fun h => h.2.2.2.2.1 hk0)
 rw [if_neg (by show ¬ ((rtA a ki).1 == 0) = true; simp [hk0])]
 refine ⟨_, _, _, cell_of p15 9, rget A5.r k5 hki.1 (by omega) fun ad had c1 c2 => ⟨_, c1, ?_⟩⟩
 by_cases hk9 : (rtA a ki).1 = 9
 · rw [if_pos (by show ((rtA a ki).1 == 9) = true; simp [hk9])]
   exact bad (if_neg fun h => h.2.2.2.2.2.1 hk9)
 rw [if_neg (by show ¬ ((rtA a ki).1 == 9) = true; simp [hk9])]
 refine ⟨_, _, _, cell_of p15 9, rget A5.r k5 hf.1 (by omega) fun ad had c1 c2 => ⟨_, c1, ?_⟩⟩
 by_cases hf9 : (rtA a fi).1 = 9
 · rw [if_pos (by show ((rtA a fi).1 == 9) = true; simp [hf9])]
   exact bad (if_neg fun h => h.2.2.2.2.2.2 hf9)
 rw [if_neg (by show ¬ ((rtA a fi).1 == 9) = true; simp [hf9])]
 have hP : skP a ri ki fi := ⟨hk, h4, hki, hf, hk0, hk9, hf9⟩
 have eA : skA a ri ki fi = if (skR a ri ki fi).2 = 1 then (a, 1) else skR a ri ki fi := if_pos hP
 rw [eA] at hQ
 refine ⟨_, _, _, cell_of p5 0, _, cell_of p5 1, _, cell_of p5 2, _, cell_of p5 3, _, cell_of p5 4, _, cell_of p5 5, _, cell_of p5 6, _, cell_of p5 7, _, cell_of p5 8, _, _, _, cell_of p5 9, via h50 ⟨⟨wa, wn, wc⟩, ⟨ra, rn, rc⟩, a, D, ri, ki, fi, rfl, im5.w, skOk_of hw hP, fun m6 o6 w6 => ⟨_, _, _, _, _, _, _, _, _, _, _, _, _, _, _, rfl, ?_⟩⟩⟩
 generalize skR a ri ki fi = q at *
 refine newA_intro fun g7 m7 hg7 e7 hb7 hle7 => ?_
 refine sto_ar hb7 fun m8 e8 q8 ne8 => ?_
 have p8 : Ptr m8 g7 ⟨wa, wn, wc⟩ ⟨ra, rn, rc⟩ q.1 := q8
 have l8 : Mem.le m6 m8 := le_other hle7 hg7 ne8
 have im8 : Im m8 g7 ⟨wa, wn, wc⟩ ⟨ra, rn, rc⟩ q.1 D := ⟨p8, w6.le l8, w6.fresh hg7⟩
 have h38 := l8 _ _ ((o6 g3 d3).trans h35)
 have O8 : Off D m m8 := ((Off.of_le L5).trans (Off.of_eq o6)).trans (Off.of_le l8)
 by_cases c1 : q.2 = 1
 · rw [if_pos (by simpa using c1)]
   rw [if_pos c1] at hQ
   have p18 : Ptr m8 g1 s r a := l8 _ _ ((o6 g1 d1).trans p15)
   have A8 : ArAt m8 s r a := hA.le fun b o e => O8 b o (fun h => by rw [hD b h] at e; cases e) e
   exact (ksB_ok t h27 p18 A8 hw h38 z3 hD O8 d3 hQ : ksB (look t) Q g1 g3 m8)
 · rw [if_neg (by simpa using c1)]
   rw [if_neg c1] at hQ
   exact (ret_nc im8 h38 z3 d3 O8 hD hQ : stT Q g7 g3 q.2 m8)
end Go.Proofs.YtpdcjocjkbgddaaGreat.Abs
namespace Go.Proofs.YtpdcjocjkbgddaaGreat.Abs
open Go.ChangeShapes Go.WideShapes Go.RowKit
theorem fill_len (p n b : Int) : ∀ (f : Nat) (i : Int) (w : List U64), (fillF p n b f i w).length = w.length
 | 0, _, _ => rfl
 | f + 1, i, w => by
   unfold fillF
   rw [fill_len p n b f]
   split
   · exact lay_len _ _ _ _ _
   · rfl
theorem skA_len {a : Ar} {r k f : Int} (hw : a.wf) : (skA a r k f).1.ws.length = a.ws.length ∧ (skA a r k f).1.rs.length = a.rs.length := by
 unfold skA
 split
 · rename_i hP
   split
   · exact ⟨rfl, rfl⟩
   · have h := skOk_of hw hP
     obtain ⟨hb, L, ert⟩ := h.load
     have l1 := L.f.len
     have l2 : (ldA a ((rtA a r).2 + 2)).rs.length = a.rs.length := by have := L.f.rs; rw [this]
     unfold skR
     generalize ldA a ((rtA a r).2 + 2) = b at *
     have key : (skB b r k f).1.ws.length = b.ws.length ∧ (skB b r k f).1.rs.length = b.rs.length := by
       unfold skB
       simp only
       split
       · exact ⟨put_len _ _ _, rfl⟩
       · split
         · exact ⟨rfl, rfl⟩
         · split
           · unfold gkR
             simp only
             split
             · exact ⟨rfl, rfl⟩
             · rename_i hg
               have ar := aliveF_range b.ws (blkOf b.ws (rtA b r).2).1 (blkOf b.ws (rtA b r).2).2.toNat 0
               obtain ⟨g1, g2, g3, g4⟩ := growN_ok (1 + aliveF b.ws (blkOf b.ws (rtA b r).2).1 (blkOf b.ws (rtA b r).2).2.toNat 0) (by omega) (by omega)
               obtain ⟨a1, a2, a3, a4⟩ := ask_ok hb.ok g3
               split
               · refine ⟨?_, a2⟩
                 show (setW (setW (setW (layW _ _ (fillF _ _ _ _ _ _) _ _) _ _) _ _) _ _).length = _
                 rw [setW_len, setW_len, setW_len, lay_len, fill_len]
                 exact a1
               · exact ⟨a1, a2⟩
           · refine ⟨?_, rfl⟩
             show (setW (layW _ _ _ _ _) _ _).length = _
             rw [setW_len, lay_len]
     exact ⟨key.1.trans l1, key.2.trans l2⟩
 · exact ⟨rfl, rfl⟩
noncomputable def skM (x : ArT) (r s i : Int) : ArT := toT (skA (arOf x) r s i).1
noncomputable def skC (x : ArT) (r s i : Int) : Int := (skA (arOf x) r s i).2
theorem skM_ok {x : ArT} {r s i : Int} (h : okAr x) (hb : ∀ w ∈ x.1, inW w.v) : okAr (skM x r s i) := okAr_of h (skA_len ⟨hb, h.1, h.2⟩)
def s21' : Spec := fun args m Q => ∃ (h : dAr.H) (x : ArT) (r s i : Int), args = [vAr h, .int .i64 r, .int .i64 s, .int .i64 i] ∧ atC m h x ∧ okAr x ∧ bgAr x ∧ ∀ (h' : dAr.H) (D : List Nat) (m' : Mem), Mem.le m m' → (∀ b ∈ D, m b = none) → D.Nodup → dAr.Own m' h' (skM x r s i) D → Q (.tuple #[vAr h', .int .i64 (skC x r s i)]) m'
theorem to21 {args : List Value} {m : Mem} {Q : Value → Mem → Prop} (h : s21' args m Q) : s21 args m Q := by
 obtain ⟨h, x, r, s, i, rfl, hq⟩ := h
 obtain ⟨e, a, w, k⟩ := makA.nc (q := fun x => skA (arOf x) r s i) hq
 exact ⟨_, _, arOf x, r, s, i, by rw [e], a, w, k⟩
def s22' : Spec := s21'
theorem to22 {args : List Value} {m : Mem} {Q : Value → Mem → Prop} (h : s22' args m Q) : s22 args m Q := to21 h
end Go.Proofs.YtpdcjocjkbgddaaGreat.Abs
namespace Go.Proofs.YtpdcjocjkbgddaaGreat.Abs
open Go.RowKit
def s6 : Spec := fun args m Q => ∃ (h : dAr.H) (x : ArT) (ri : Int) (si : Int) (fi : Int), args = [vAr h, .int .i64 ri, .int .i64 si, .int .i64 fi] ∧ dAr.At m h x ∧ bgAr x ∧ (∀ M, Mem.le m M → Q (.bool true) M)
theorem f6 (t : Tab) (h7 : look t 7 = s7) (h9 : look t 9 = s9) (h11 : look t 11 = s11) (h12 : look t 12 = s12) (h13 : look t 13 = s13) (h21 : look t 21 = s21') (h22 : look t 22 = s22') : ∀ args m Q, s6 args m Q → FA Tryz.prog (look t) kp6 Tryz.f6 args m Q := by
 rintro args m Q ⟨(⟨⟨uwa, uwn, uwc⟩, use, uto, utp, ucy, usc, uol, uco, usr, ⟨ura, urn, urc⟩⟩ : ArH), x, ri, si, fi, rfl, hA, hbg, h⟩
 show FA Tryz.prog (look t) kp6 Tryz.f6 [.agg #[.slice uwa uwn uwc, .int .i64 use, .int .i64 uto, .int .i64 utp, .bool ucy, .int .i64 usc, .int .i64 uol, .int .i64 uco, .int .i64 usr, .slice ura urn urc], .int .i64 ri, .int .i64 si, .int .i64 fi] m Q
 rw [e6]
 refine newA_intro fun g1 m2 hg1 e2 hb1 hle2 => ?_
 have hA := dAr.at_le hle2 hA
 have h : ∀ M, Mem.le m2 M → Q (.bool true) M := fun M hM => h M (Mem.le_trans hle2 hM)
 clear e2 hle2
 refine ⟨_, _, _, cell_of hb1 0, _, cell_of hb1 1, _, cell_of hb1 2, _, cell_of hb1 3, _, cell_of hb1 4, _, cell_of hb1 5, _, cell_of hb1 6, _, cell_of hb1 7, _, cell_of hb1 8, _, _, _, cell_of hb1 9, via h7 ⟨(⟨⟨uwa, uwn, uwc⟩, use, uto, utp, ucy, usc, uol, uco, usr, ⟨ura, urn, urc⟩⟩ : ArH), x, _, rfl, hA, hbg, by omega, by omega, fun r hr => ⟨_, rfl, ?_⟩⟩⟩
 by_cases hz : r < 0
 · rw [if_pos (by simpa using hz)]; exact ret_intro (Mem.le_refl _) (h _ (Mem.le_refl _))
 rw [if_neg (by simpa using hz)]
 have hok : okAr x := by rcases hr with hr | ⟨_, _, hr⟩; exact absurd hr hz; exact hr
 have hokR : okAr (skM x ri si fi) := skM_ok hok hbg.2.2
 refine ⟨_, _, _, cell_of hb1 0, _, cell_of hb1 1, _, cell_of hb1 2, _, cell_of hb1 3, _, cell_of hb1 4, _, cell_of hb1 5, _, cell_of hb1 6, _, cell_of hb1 7, _, cell_of hb1 8, _, _, _, cell_of hb1 9, via h9 ⟨(⟨⟨uwa, uwn, uwc⟩, use, uto, utp, ucy, usc, uol, uco, usr, ⟨ura, urn, urc⟩⟩ : ArH), x, rfl, dAr.at_le (Mem.le_refl _) hA, hok, fun (k1 : dAr.H) D1 M1 le1 fr1 nd1 o1 => ?_⟩⟩
 obtain (⟨⟨bwa, bwn, bwc⟩, bse, bto, btp, bcy, bsc, bol, bco, bsr, ⟨bra, brn, brc⟩⟩ : ArH) := k1
 refine ⟨_, _, _, _, _, _, _, _, _, _, _, _, _, _, rfl, via h21 ⟨(⟨⟨bwa, bwn, bwc⟩, bse, bto, btp, bcy, bsc, bol, bco, bsr, ⟨bra, brn, brc⟩⟩ : ArH), x, ri, si, fi, rfl, own_atC o1, hok, hbg, fun (k2 : dAr.H) D2 M2 le2 fr2 nd2 o2 => ?_⟩⟩
 obtain (⟨⟨cwa, cwn, cwc⟩, cse, cto, ctp, ccy, csc, col, cco, csr, ⟨cra, crn, crc⟩⟩ : ArH) := k2
 refine ⟨_, _, _, _, _, _, _, _, _, _, _, _, _, _, _, rfl, newA_intro fun gw mgw hgw egw bgw lgw => ?_⟩
 refine sto_ar bgw fun M3 fgw qgw ngw => ?_
 have qgw : M3 gw = some (.cells #[.slice cwa cwn cwc, .int .i64 cse, .int .i64 cto, .int .i64 ctp, .bool ccy, .int .i64 csc, .int .i64 col, .int .i64 cco, .int .i64 csr, .slice cra crn crc] 29 (0, 0)) := qgw
 have lgw : Mem.le M2 M3 := by rw [fgw, egw, upd_upd]; exact le_upd hgw
 clear fgw egw bgw ngw
 have L3 : Mem.le m2 M3 := (Mem.le_trans (Mem.le_trans le1 le2) lgw)
 have c3 := L3 _ _ hb1
 refine ⟨_, _, _, cell_of c3 0, _, cell_of c3 1, _, cell_of c3 2, _, cell_of c3 3, _, cell_of c3 4, _, cell_of c3 5, _, cell_of c3 6, _, cell_of c3 7, _, cell_of c3 8, _, _, _, cell_of c3 9, via h9 ⟨(⟨⟨uwa, uwn, uwc⟩, use, uto, utp, ucy, usc, uol, uco, usr, ⟨ura, urn, urc⟩⟩ : ArH), x, rfl, dAr.at_le L3 hA, hok, fun (k4 : dAr.H) D4 M4 le4 fr4 nd4 o4 => ?_⟩⟩
 obtain (⟨⟨dwa, dwn, dwc⟩, dse, dto, dtp, dcy, dsc, dol, dco, dsr, ⟨dra, drn, drc⟩⟩ : ArH) := k4
 refine ⟨_, _, _, _, _, _, _, _, _, _, _, _, _, _, rfl, newA_intro fun gx mgx hgx egx bgx lgx => ?_⟩
 refine sto_ar bgx fun M5 fgx qgx ngx => ?_
 have qgx : M5 gx = some (.cells #[.slice dwa dwn dwc, .int .i64 dse, .int .i64 dto, .int .i64 dtp, .bool dcy, .int .i64 dsc, .int .i64 dol, .int .i64 dco, .int .i64 dsr, .slice dra drn drc] 29 (0, 0)) := qgx
 have lgx : Mem.le M4 M5 := by rw [fgx, egx, upd_upd]; exact le_upd hgx
 clear fgx egx bgx ngx
 have L5 : Mem.le M3 M5 := Mem.le_trans le4 lgx
 refine ⟨_, _, _, cell_of qgx 0, _, cell_of qgx 1, _, cell_of qgx 2, _, cell_of qgx 3, _, cell_of qgx 4, _, cell_of qgx 5, _, cell_of qgx 6, _, cell_of qgx 7, _, cell_of qgx 8, _, _, _, cell_of qgx 9, via h22 ⟨(⟨⟨dwa, dwn, dwc⟩, dse, dto, dtp, dcy, dsc, dol, dco, dsr, ⟨dra, drn, drc⟩⟩ : ArH), x, ri, si, fi, rfl, own_atC (dAr.own_le lgx o4), hok, hbg, fun (k6 : dAr.H) D6 M6 le6 fr6 nd6 o6 => ?_⟩⟩
 obtain (⟨⟨ewa, ewn, ewc⟩, ese, eto, etp, ecy, esc, eol, eco, esr, ⟨era, ern, erc⟩⟩ : ArH) := k6
 refine ⟨_, _, _, _, _, _, _, _, _, _, _, _, _, _, _, rfl, newA_intro fun gg mgg hgg egg bgg lgg => ?_⟩
 refine sto_ar bgg fun M7 fgg qgg ngg => ?_
 have qgg : M7 gg = some (.cells #[.slice ewa ewn ewc, .int .i64 ese, .int .i64 eto, .int .i64 etp, .bool ecy, .int .i64 esc, .int .i64 eol, .int .i64 eco, .int .i64 esr, .slice era ern erc] 29 (0, 0)) := qgg
 have lgg : Mem.le M6 M7 := by rw [fgg, egg, upd_upd]; exact le_upd hgg
 clear fgg egg bgg ngg
 have L7 : Mem.le M5 M7 := Mem.le_trans le6 lgg
 have w7 := dAr.own_le (Mem.le_trans L5 L7) (dAr.own_le lgw o2)
 have x7 := dAr.own_le (Mem.le_trans lgx L7) o4
 have g7 := dAr.own_le lgg o6
 have bw7 := L7 _ _ (L5 _ _ qgw)
 have bx7 := L7 _ _ qgx
 have a7 := L7 _ _ (L5 _ _ c3)
 refine ⟨_, _, _, cell_of qgg 0, _, cell_of qgg 1, _, cell_of qgg 2, _, cell_of qgg 3, _, cell_of qgg 4, _, cell_of qgg 5, _, cell_of qgg 6, _, cell_of qgg 7, _, cell_of qgg 8, _, _, _, cell_of qgg 9, _, _, _, cell_of bw7 0, _, cell_of bw7 1, _, cell_of bw7 2, _, cell_of bw7 3, _, cell_of bw7 4, _, cell_of bw7 5, _, cell_of bw7 6, _, cell_of bw7 7, _, cell_of bw7 8, _, _, _, cell_of bw7 9, via h11 ⟨(⟨⟨ewa, ewn, ewc⟩, ese, eto, etp, ecy, esc, eol, eco, esr, ⟨era, ern, erc⟩⟩ : ArH), (skM x ri si fi), (⟨⟨cwa, cwn, cwc⟩, cse, cto, ctp, ccy, csc, col, cco, csr, ⟨cra, crn, crc⟩⟩ : ArH), (skM x ri si fi), rfl, dAr.own_at g7, dAr.own_at w7, hokR, ?_⟩⟩
 refine ⟨_, rfl, ?_⟩
 rw [if_neg (by simp)]
 rw [if_neg (by simp)]
 refine ⟨Mem.le M7, Mem.le_refl _, _, _, _, held (cell_of bx7 0), _, held (cell_of bx7 1), _, held (cell_of bx7 2), _, held (cell_of bx7 3), _, held (cell_of bx7 4), _, held (cell_of bx7 5), _, held (cell_of bx7 6), _, held (cell_of bx7 7), _, held (cell_of bx7 8), _, _, _, held (cell_of bx7 9), _, _, _, held (cell_of a7 0), _, held (cell_of a7 1), _, held (cell_of a7 2), _, held (cell_of a7 3), _, held (cell_of a7 4), _, held (cell_of a7 5), _, held (cell_of a7 6), _, held (cell_of a7 7), _, held (cell_of a7 8), _, _, _, held (cell_of a7 9), via h9 ⟨(⟨⟨uwa, uwn, uwc⟩, use, uto, utp, ucy, usc, uol, uco, usr, ⟨ura, urn, urc⟩⟩ : ArH), x, rfl, dAr.at_le (Mem.le_trans L3 (Mem.le_trans L5 L7)) hA, hok, fun (k8 : dAr.H) D8 M8 le8 fr8 nd8 o8 => ?_⟩⟩
 obtain (⟨⟨fwa, fwn, fwc⟩, fse, fto, ftp, fcy, fsc, fol, fco, fsr, ⟨fra, frn, frc⟩⟩ : ArH) := k8
 refine ⟨_, _, _, _, _, _, _, _, _, _, _, _, _, _, rfl, le8, via h11 ⟨(⟨⟨dwa, dwn, dwc⟩, dse, dto, dtp, dcy, dsc, dol, dco, dsr, ⟨dra, drn, drc⟩⟩ : ArH), x, (⟨⟨fwa, fwn, fwc⟩, fse, fto, ftp, fcy, fsc, fol, fco, fsr, ⟨fra, frn, frc⟩⟩ : ArH), x, rfl, dAr.own_at (dAr.own_le le8 x7), dAr.own_at o8, hok, ?_⟩⟩
 refine ⟨_, rfl, le8, ?_⟩
 rw [if_neg (by simp)]
 have bx8 := le8 _ _ bx7
 have a8 := le8 _ _ a7
 have bw8 := le8 _ _ bw7
 have bg8 := le8 _ _ qgg
 have w8 := dAr.own_le le8 w7
 have g8 := dAr.own_le le8 g7
 have x8 := dAr.own_le le8 x7
 have dis : ∀ {α β : Type} {d : Ds α} {e : Ds β} {h : d.H} {x : α} {h' : e.H} {y : β} {M M' : Mem} {D E : List Nat}, d.Own M h x D → Mem.le M M' → (∀ b ∈ E, M' b = none) → ∀ b ∈ D, b ∉ E := fun o l f b hb hb' => by obtain ⟨ob, ho⟩ := Ds.live _ o b hb; have := l _ _ ho; rw [f b hb'] at this; cases this
 have dbl : ∀ {M M' : Mem} {g : Nat} {ob : Obj} {E : List Nat}, M g = some ob → Mem.le M M' → (∀ b ∈ E, M' b = none) → g ∉ E := fun o l f hb => by have := l _ _ o; rw [f _ hb] at this; cases this
 have dwx : ∀ b ∈ D2, b ∉ D4 := fun b hb hb' => by obtain ⟨ob, ho⟩ := dAr.live o2 b hb; have := lgw _ _ ho; rw [fr4 b hb'] at this; cases this
 have dwg : ∀ b ∈ D2, b ∉ D6 := fun b hb hb' => by obtain ⟨ob, ho⟩ := dAr.live o2 b hb; have := L5 _ _ (lgw _ _ ho); rw [fr6 b hb'] at this; cases this
 have dxg : ∀ b ∈ D4, b ∉ D6 := fun b hb hb' => by obtain ⟨ob, ho⟩ := dAr.live o4 b hb; have := lgx _ _ ho; rw [fr6 b hb'] at this; cases this
 have n1x : g1 ∉ D4 := dbl c3 (Mem.le_refl _) fr4
 have n1g : g1 ∉ D6 := dbl c3 L5 fr6
 have nxx : gx ∉ D4 := fun hb => by obtain ⟨ob, ho⟩ := dAr.live o4 _ hb; rw [hgx] at ho; cases ho
 have nxg : gx ∉ D6 := dbl qgx (Mem.le_refl _) fr6
 have nwx : gw ∉ D4 := dbl qgw (Mem.le_refl _) fr4
 have nwg : gw ∉ D6 := dbl qgw L5 fr6
 have ngx : gg ∉ D4 := fun hb => by obtain ⟨ob, ho⟩ := dAr.live o4 _ hb; have := le6 _ _ (lgx _ _ ho); rw [hgg] at this; cases this
 have ngg : gg ∉ D6 := fun hb => by obtain ⟨ob, ho⟩ := dAr.live o6 _ hb; rw [hgg] at ho; cases ho
 refine ⟨_, _, _, cell_of bx8 0, _, cell_of bx8 1, _, cell_of bx8 2, _, cell_of bx8 3, _, cell_of bx8 4, _, cell_of bx8 5, _, cell_of bx8 6, _, cell_of bx8 7, _, cell_of bx8 8, _, _, _, cell_of bx8 9, via h12 ⟨(⟨⟨dwa, dwn, dwc⟩, dse, dto, dtp, dcy, dsc, dol, dco, dsr, ⟨dra, drn, drc⟩⟩ : ArH), x, D4, 1, rfl, x8, nd4, hok, by omega, by omega, fun M9 off9 o9 => ⟨_, rfl, ?_⟩⟩⟩
 rw [if_neg (by simp; omega)]
 have w9 := dAr.own_ext w8 fun b hb => off9 b (dwx b hb)
 have g9 := dAr.own_ext g8 fun b hb => off9 b (fun h' => dxg b h' hb)
 have a9 : M9 g1 = _ := (off9 _ n1x).trans a8
 have bx9 : M9 gx = _ := (off9 _ nxx).trans bx8
 have bw9 : M9 gw = _ := (off9 _ nwx).trans bw8
 have bg9 : M9 gg = _ := (off9 _ ngx).trans bg8
 refine ⟨_, _, _, cell_of bg9 0, _, cell_of bg9 1, _, cell_of bg9 2, _, cell_of bg9 3, _, cell_of bg9 4, _, cell_of bg9 5, _, cell_of bg9 6, _, cell_of bg9 7, _, cell_of bg9 8, _, _, _, cell_of bg9 9, _, _, _, cell_of bw9 0, _, cell_of bw9 1, _, cell_of bw9 2, _, cell_of bw9 3, _, cell_of bw9 4, _, cell_of bw9 5, _, cell_of bw9 6, _, cell_of bw9 7, _, cell_of bw9 8, _, _, _, cell_of bw9 9, via h11 ⟨(⟨⟨ewa, ewn, ewc⟩, ese, eto, etp, ecy, esc, eol, eco, esr, ⟨era, ern, erc⟩⟩ : ArH), (skM x ri si fi), (⟨⟨cwa, cwn, cwc⟩, cse, cto, ctp, ccy, csc, col, cco, csr, ⟨cra, crn, crc⟩⟩ : ArH), (skM x ri si fi), rfl, dAr.own_at g9, dAr.own_at w9, hokR, ?_⟩⟩
 refine ⟨_, rfl, ?_⟩
 rw [if_neg (by simp)]
 rw [if_neg (by simp)]
 refine ⟨_, _, _, cell_of bg9 0, _, cell_of bg9 1, _, cell_of bg9 2, _, cell_of bg9 3, _, cell_of bg9 4, _, cell_of bg9 5, _, cell_of bg9 6, _, cell_of bg9 7, _, cell_of bg9 8, _, _, _, cell_of bg9 9, via h12 ⟨(⟨⟨ewa, ewn, ewc⟩, ese, eto, etp, ecy, esc, eol, eco, esr, ⟨era, ern, erc⟩⟩ : ArH), (skM x ri si fi), D6, 1, rfl, g9, nd6, hokR, by omega, by omega, fun Ma offa oa => ⟨_, rfl, ?_⟩⟩⟩
 have wa := dAr.own_ext w9 fun b hb => offa b (dwg b hb)
 have aa : Ma g1 = _ := (offa _ n1g).trans a9
 have bwa : Ma gw = _ := (offa _ nwg).trans bw9
 have bga : Ma gg = _ := (offa _ ngg).trans bg9
 refine ⟨_, _, _, cell_of bga 0, _, cell_of bga 1, _, cell_of bga 2, _, cell_of bga 3, _, cell_of bga 4, _, cell_of bga 5, _, cell_of bga 6, _, cell_of bga 7, _, cell_of bga 8, _, _, _, cell_of bga 9, via h13 ⟨(⟨⟨ewa, ewn, ewc⟩, ese, eto, etp, ecy, esc, eol, eco, esr, ⟨era, ern, erc⟩⟩ : ArH), (skM x ri si fi), 1, rfl, dAr.own_at oa, hokR, by omega, by omega, ⟨_, rfl, ?_⟩⟩⟩
 rw [if_neg (by simp; omega), if_neg (by simp)]
 have La : Mem.le m2 Ma := fun b o ho => by
   have hb4 : b ∉ D4 := fun hb => by have := L3 _ _ ho; rw [fr4 b hb] at this; cases this
   have hb6 : b ∉ D6 := fun hb => by have := L5 _ _ (L3 _ _ ho); rw [fr6 b hb] at this; cases this
   rw [offa b hb6, off9 b hb4]
   exact le8 _ _ (L7 _ _ (L5 _ _ (L3 _ _ ho)))
 refine ⟨_, _, _, cell_of aa 0, _, cell_of aa 1, _, cell_of aa 2, _, cell_of aa 3, _, cell_of aa 4, _, cell_of aa 5, _, cell_of aa 6, _, cell_of aa 7, _, cell_of aa 8, _, _, _, cell_of aa 9, via h9 ⟨(⟨⟨uwa, uwn, uwc⟩, use, uto, utp, ucy, usc, uol, uco, usr, ⟨ura, urn, urc⟩⟩ : ArH), x, rfl, dAr.at_le La hA, hok, fun (kb : dAr.H) Db Mb leb frb ndb ob => ?_⟩⟩
 obtain (⟨⟨ywa, ywn, ywc⟩, yse, yto, ytp, ycy, ysc, yol, yco, ysr, ⟨yra, yrn, yrc⟩⟩ : ArH) := kb
 refine ⟨_, _, _, _, _, _, _, _, _, _, _, _, _, _, rfl, via h22 ⟨(⟨⟨ywa, ywn, ywc⟩, yse, yto, ytp, ycy, ysc, yol, yco, ysr, ⟨yra, yrn, yrc⟩⟩ : ArH), x, ri, si, fi, rfl, own_atC ob, hok, hbg, fun (kc : dAr.H) Dc Mc lec frc ndc oc => ?_⟩⟩
 obtain (⟨⟨zwa, zwn, zwc⟩, zse, zto, ztp, zcy, zsc, zol, zco, zsr, ⟨zra, zrn, zrc⟩⟩ : ArH) := kc
 refine ⟨_, _, _, _, _, _, _, _, _, _, _, _, _, _, _, rfl, newA_intro fun gh mgh hgh egh bgh lgh => ?_⟩
 refine sto_ar bgh fun Md fgh qgh ngh => ?_
 have qgh : Md gh = some (.cells #[.slice zwa zwn zwc, .int .i64 zse, .int .i64 zto, .int .i64 ztp, .bool zcy, .int .i64 zsc, .int .i64 zol, .int .i64 zco, .int .i64 zsr, .slice zra zrn zrc] 29 (0, 0)) := qgh
 have lgh : Mem.le Mc Md := by rw [fgh, egh, upd_upd]; exact le_upd hgh
 clear fgh egh bgh ngh
 have Ld : Mem.le Ma Md := Mem.le_trans (Mem.le_trans leb lec) lgh
 have bwd := Ld _ _ bwa
 have bgd := Ld _ _ bga
 refine ⟨_, _, _, cell_of qgh 0, _, cell_of qgh 1, _, cell_of qgh 2, _, cell_of qgh 3, _, cell_of qgh 4, _, cell_of qgh 5, _, cell_of qgh 6, _, cell_of qgh 7, _, cell_of qgh 8, _, _, _, cell_of qgh 9, _, _, _, cell_of bwd 0, _, cell_of bwd 1, _, cell_of bwd 2, _, cell_of bwd 3, _, cell_of bwd 4, _, cell_of bwd 5, _, cell_of bwd 6, _, cell_of bwd 7, _, cell_of bwd 8, _, _, _, cell_of bwd 9, via h11 ⟨(⟨⟨zwa, zwn, zwc⟩, zse, zto, ztp, zcy, zsc, zol, zco, zsr, ⟨zra, zrn, zrc⟩⟩ : ArH), (skM x ri si fi), (⟨⟨cwa, cwn, cwc⟩, cse, cto, ctp, ccy, csc, col, cco, csr, ⟨cra, crn, crc⟩⟩ : ArH), (skM x ri si fi), rfl, dAr.own_at (dAr.own_le lgh oc), dAr.own_at (dAr.own_le Ld wa), hokR, ?_⟩⟩
 refine ⟨_, rfl, ?_⟩
 rw [if_neg (by simp)]
 rw [if_neg (by simp)]
 refine ⟨_, _, _, cell_of bgd 0, _, cell_of bgd 1, _, cell_of bgd 2, _, cell_of bgd 3, _, cell_of bgd 4, _, cell_of bgd 5, _, cell_of bgd 6, _, cell_of bgd 7, _, cell_of bgd 8, _, _, _, cell_of bgd 9, via h13 ⟨(⟨⟨ewa, ewn, ewc⟩, ese, eto, etp, ecy, esc, eol, eco, esr, ⟨era, ern, erc⟩⟩ : ArH), (skM x ri si fi), 1, rfl, dAr.own_at (dAr.own_le Ld oa), hokR, by omega, by omega, ⟨_, rfl, ?_⟩⟩⟩
 rw [if_neg (by simp; omega), if_neg (by simp)]
 exact ret_intro (Mem.le_refl _) (h _ (Mem.le_trans La Ld))
def t1 : Tab := (23, s23) :: []
theorem a1 : AllMeets Tryz.prog t1 := (allMeets_nil Tryz.prog).add mixed kp23 (show Tryz.prog.funcs[23]? = some Tryz.f23 from Tryz.func23) (by kernel_rfl) (f23 [])
def t2 : Tab := (24, s24) :: t1
theorem a2 : AllMeets Tryz.prog t2 := a1.add mixed kp24 (show Tryz.prog.funcs[24]? = some Tryz.f24 from Tryz.func24) (by kernel_rfl) (f24 t1)
def t3 : Tab := (7, s7) :: t2
theorem a3 : AllMeets Tryz.prog t3 := a2.add mixed kp7 (show Tryz.prog.funcs[7]? = some Tryz.f7 from Tryz.func7) (by kernel_rfl) (f7 t2 rfl rfl)
def t4 : Tab := (29, s29) :: t3
theorem a4 : AllMeets Tryz.prog t4 := a3.add mixed kp29 (show Tryz.prog.funcs[29]? = some Tryz.f29 from Tryz.func29) (by kernel_rfl) (f29 t3)
def t5 : Tab := (61, s61) :: t4
theorem a5 : AllMeets Tryz.prog t5 := a4.add mixed kp61 (show Tryz.prog.funcs[61]? = some Tryz.f61 from Tryz.func61) (by kernel_rfl) (f61 t4)
def t6 : Tab := (30, s30) :: t5
theorem a6 : AllMeets Tryz.prog t6 := a5.add mixed kp30 (show Tryz.prog.funcs[30]? = some Tryz.f30 from Tryz.func30) (by kernel_rfl) (f30 t5 rfl)
def t7 : Tab := (9, s9) :: t6
theorem a7 : AllMeets Tryz.prog t7 := a6.add mixed kp9 (show Tryz.prog.funcs[9]? = some Tryz.f9 from Tryz.func9) (by kernel_rfl) (f9 t6 rfl rfl)
def t8 : Tab := (35, s35) :: t7
theorem a8 : AllMeets Tryz.prog t8 := a7.add mixed kp35 (show Tryz.prog.funcs[35]? = some Tryz.f35 from Tryz.func35) (by kernel_rfl) (f35 t7)
def t9 : Tab := (70, s70) :: t8
theorem a9 : AllMeets Tryz.prog t9 := a8.add mixed kp70 (show Tryz.prog.funcs[70]? = some Tryz.f70 from Tryz.func70) (by kernel_rfl) (f70 t8)
def t10 : Tab := (36, s36) :: t9
theorem a10 : AllMeets Tryz.prog t10 := a9.add mixed kp36 (show Tryz.prog.funcs[36]? = some Tryz.f36 from Tryz.func36) (by kernel_rfl) (f36 t9 rfl)
def t11 : Tab := (11, s11) :: t10
theorem a11 : AllMeets Tryz.prog t11 := a10.add mixed kp11 (show Tryz.prog.funcs[11]? = some Tryz.f11 from Tryz.func11) (by kernel_rfl) (f11 t10 rfl rfl)
def t12 : Tab := (37, s37) :: t11
theorem a12 : AllMeets Tryz.prog t12 := a11.add mixed kp37 (show Tryz.prog.funcs[37]? = some Tryz.f37 from Tryz.func37) (by kernel_rfl) (f37 t11)
def t13 : Tab := (38, s38) :: t12
theorem a13 : AllMeets Tryz.prog t13 := a12.add mixed kp38 (show Tryz.prog.funcs[38]? = some Tryz.f38 from Tryz.func38) (by kernel_rfl) (f38 t12)
def t14 : Tab := (12, s12) :: t13
theorem a14 : AllMeets Tryz.prog t14 := a13.add mixed kp12 (show Tryz.prog.funcs[12]? = some Tryz.f12 from Tryz.func12) (by kernel_rfl) (f12 t13 rfl rfl)
def t15 : Tab := (39, s39) :: t14
theorem a15 : AllMeets Tryz.prog t15 := a14.add mixed kp39 (show Tryz.prog.funcs[39]? = some Tryz.f39 from Tryz.func39) (by kernel_rfl) (f39 t14)
def t16 : Tab := (40, s40) :: t15
theorem a16 : AllMeets Tryz.prog t16 := a15.add mixed kp40 (show Tryz.prog.funcs[40]? = some Tryz.f40 from Tryz.func40) (by kernel_rfl) (f40 t15)
def t17 : Tab := (13, s13) :: t16
theorem a17 : AllMeets Tryz.prog t17 := a16.add mixed kp13 (show Tryz.prog.funcs[13]? = some Tryz.f13 from Tryz.func13) (by kernel_rfl) (f13 t16 rfl rfl)
def t18 : Tab := (60, s60) :: t17
theorem a18 : AllMeets Tryz.prog t18 := a17.add mixed kp60 (show Tryz.prog.funcs[60]? = some Tryz.f60 from Tryz.func60) (by kernel_rfl) (f60 t17)
def t19 : Tab := (27, s27) :: t18
theorem a19 : AllMeets Tryz.prog t19 := a18.add mixed kp27 (show Tryz.prog.funcs[27]? = some Tryz.f27 from Tryz.func27) (by kernel_rfl) (f27 t18 rfl)
def t20 : Tab := (44, s44) :: t19
theorem a20 : AllMeets Tryz.prog t20 := a19.add mixed kp44 (show Tryz.prog.funcs[44]? = some Tryz.f44 from Tryz.func44) (by kernel_rfl) (f44 t19)
def t21 : Tab := (73, s73) :: t20
theorem a21 : AllMeets Tryz.prog t21 := a20.add mixed kp73 (show Tryz.prog.funcs[73]? = some Tryz.f73 from Tryz.func73) (by kernel_rfl) (f73 t20)
def t22 : Tab := (90, s90) :: t21
theorem a22 : AllMeets Tryz.prog t22 := a21.add mixed kp90 (show Tryz.prog.funcs[90]? = some Tryz.f90 from Tryz.func90) (by kernel_rfl) (f90 t21)
def t23 : Tab := (52, s52) :: t22
theorem a23 : AllMeets Tryz.prog t23 := a22.add mixed kp52 (show Tryz.prog.funcs[52]? = some Tryz.f52 from Tryz.func52) (by kernel_rfl) (f52 t22 rfl rfl rfl)
def t24 : Tab := (118, s118) :: t23
theorem a24 : AllMeets Tryz.prog t24 := a23.add mixed kp118 (show Tryz.prog.funcs[118]? = some Tryz.f118 from Tryz.func118) (by kernel_rfl) (f118 t23 rfl)
def t25 : Tab := (79, s79) :: t24
theorem a25 : AllMeets Tryz.prog t25 := a24.add mixed kp79 (show Tryz.prog.funcs[79]? = some Tryz.f79 from Tryz.func79) (by kernel_rfl) (f79 t24 rfl)
def t26 : Tab := (91, s91) :: t25
theorem a26 : AllMeets Tryz.prog t26 := a25.add mixed kp91 (show Tryz.prog.funcs[91]? = some Tryz.f91 from Tryz.func91) (by kernel_rfl) (f91 t25 rfl)
def t27 : Tab := (92, s92) :: t26
theorem a27 : AllMeets Tryz.prog t27 := a26.add mixed kp92 (show Tryz.prog.funcs[92]? = some Tryz.f92 from Tryz.func92) (by kernel_rfl) (f92 t26)
def t28 : Tab := (56, s56) :: t27
theorem a28 : AllMeets Tryz.prog t28 := a27.add mixed kp56 (show Tryz.prog.funcs[56]? = some Tryz.f56 from Tryz.func56) (by kernel_rfl) (f56 t27 rfl)
def t29 : Tab := (53, s53) :: t28
theorem a29 : AllMeets Tryz.prog t29 := a28.add mixed kp53 (show Tryz.prog.funcs[53]? = some Tryz.f53 from Tryz.func53) (by kernel_rfl) (f53 t28 rfl rfl rfl rfl rfl)
def t30 : Tab := (54, s54) :: t29
theorem a30 : AllMeets Tryz.prog t30 := a29.add mixed kp54 (show Tryz.prog.funcs[54]? = some Tryz.f54 from Tryz.func54) (by kernel_rfl) (f54 t29 rfl)
def t31 : Tab := (101, s101) :: t30
theorem a31 : AllMeets Tryz.prog t31 := a30.add mixed kp101 (show Tryz.prog.funcs[101]? = some Tryz.f101 from Tryz.func101) (by kernel_rfl) (f101 t30)
def t32 : Tab := (100, s100) :: t31
theorem a32 : AllMeets Tryz.prog t32 := a31.add mixed kp100 (show Tryz.prog.funcs[100]? = some Tryz.f100 from Tryz.func100) (by kernel_rfl) (f100 t31 rfl)
def t33 : Tab := (58, s58) :: t32
theorem a33 : AllMeets Tryz.prog t33 := a32.add mixed kp58 (show Tryz.prog.funcs[58]? = some Tryz.f58 from Tryz.func58) (by kernel_rfl) (f58 t32 rfl rfl)
def t34 : Tab := (94, s94) :: t33
theorem a34 : AllMeets Tryz.prog t34 := a33.add mixed kp94 (show Tryz.prog.funcs[94]? = some Tryz.f94 from Tryz.func94) (by kernel_rfl) (f94 t33 rfl)
def t35 : Tab := (97, s97) :: t34
theorem a35 : AllMeets Tryz.prog t35 := a34.add mixed kp97 (show Tryz.prog.funcs[97]? = some Tryz.f97 from Tryz.func97) (by kernel_rfl) (f97 t34 rfl)
def t36 : Tab := (59, s59) :: t35
theorem a36 : AllMeets Tryz.prog t36 := a35.add mixed kp59 (show Tryz.prog.funcs[59]? = some Tryz.f59 from Tryz.func59) (by kernel_rfl) (f59 t35 rfl rfl rfl rfl)
def t37 : Tab := (71, s71) :: t36
theorem a37 : AllMeets Tryz.prog t37 := a36.add mixed kp71 (show Tryz.prog.funcs[71]? = some Tryz.f71 from Tryz.func71) (by kernel_rfl) (f71 t36)
def t38 : Tab := (95, s95) :: t37
theorem a38 : AllMeets Tryz.prog t38 := a37.add mixed kp95 (show Tryz.prog.funcs[95]? = some Tryz.f95 from Tryz.func95) (by kernel_rfl) (f95 t37 rfl rfl)
def t39 : Tab := (96, s96) :: t38
theorem a39 : AllMeets Tryz.prog t39 := a38.add mixed kp96 (show Tryz.prog.funcs[96]? = some Tryz.f96 from Tryz.func96) (by kernel_rfl) (f96 t38 rfl rfl rfl)
def t40 : Tab := (93, s93) :: t39
theorem a40 : AllMeets Tryz.prog t40 := a39.add mixed kp93 (show Tryz.prog.funcs[93]? = some Tryz.f93 from Tryz.func93) (by kernel_rfl) (f93 t39 rfl)
def t41 : Tab := (55, s55) :: t40
theorem a41 : AllMeets Tryz.prog t41 := a40.add mixed kp55 (show Tryz.prog.funcs[55]? = some Tryz.f55 from Tryz.func55) (by kernel_rfl) (f55 t40 rfl rfl rfl rfl rfl rfl rfl rfl)
def t42 : Tab := (99, s99) :: t41
theorem a42 : AllMeets Tryz.prog t42 := a41.add mixed kp99 (show Tryz.prog.funcs[99]? = some Tryz.f99 from Tryz.func99) (by kernel_rfl) (f99 t41 rfl)
def t43 : Tab := (42, s42) :: t42
theorem a43 : AllMeets Tryz.prog t43 := a42.add mixed kp42 (show Tryz.prog.funcs[42]? = some Tryz.f42 from Tryz.func42) (by kernel_rfl) (f42 t42 rfl)
def t44 : Tab := (122, s122) :: t43
theorem a44 : AllMeets Tryz.prog t44 := a43.add mixed kp122 (show Tryz.prog.funcs[122]? = some Tryz.f122 from Tryz.func122) (by kernel_rfl) (f122 t43 rfl rfl rfl)
def t45 : Tab := (121, s121) :: t44
theorem a45 : AllMeets Tryz.prog t45 := a44.add mixed kp121 (show Tryz.prog.funcs[121]? = some Tryz.f121 from Tryz.func121) (by kernel_rfl) (f121 t44 rfl rfl rfl)
def t46 : Tab := (82, s82) :: t45
theorem a46 : AllMeets Tryz.prog t46 := a45.add mixed kp82 (show Tryz.prog.funcs[82]? = some Tryz.f82 from Tryz.func82) (by kernel_rfl) (f82 t45 rfl rfl rfl)
def t47 : Tab := (98, s98) :: t46
theorem a47 : AllMeets Tryz.prog t47 := a46.add mixed kp98 (show Tryz.prog.funcs[98]? = some Tryz.f98 from Tryz.func98) (by kernel_rfl) (f98 t46 rfl)
def t48 : Tab := (57, s57) :: t47
theorem a48 : AllMeets Tryz.prog t48 := a47.add mixed kp57 (show Tryz.prog.funcs[57]? = some Tryz.f57 from Tryz.func57) (by kernel_rfl) (f57 t47 rfl rfl rfl rfl rfl rfl)
def t49 : Tab := (25, s25) :: t48
theorem a49 : AllMeets Tryz.prog t49 := a48.add mixed kp25 (show Tryz.prog.funcs[25]? = some Tryz.f25 from Tryz.func25) (by kernel_rfl) (f25 t48 rfl rfl rfl rfl rfl rfl rfl rfl)
def t50 : Tab := (26, s26) :: t49
theorem a50 : AllMeets Tryz.prog t50 := a49.add mixed kp26 (show Tryz.prog.funcs[26]? = some Tryz.f26 from Tryz.func26) (by kernel_rfl) (f26 t49 rfl)
def t51 : Tab := (49, s49) :: t50
theorem a51 : AllMeets Tryz.prog t51 := a50.add mixed kp49 (show Tryz.prog.funcs[49]? = some Tryz.f49 from Tryz.func49) (by kernel_rfl) (f49 t50 rfl)
def t52 : Tab := (116, s116) :: t51
theorem a52 : AllMeets Tryz.prog t52 := a51.add mixed kp116 (show Tryz.prog.funcs[116]? = some Tryz.f116 from Tryz.func116) (by kernel_rfl) (f116 t51 rfl rfl rfl)
def t53 : Tab := (46, s46) :: t52
theorem a53 : AllMeets Tryz.prog t53 := a52.add mixed kp46 (show Tryz.prog.funcs[46]? = some Tryz.f46 from Tryz.func46) (by kernel_rfl) (f46 t52)
def t54 : Tab := (119, s119) :: t53
theorem a54 : AllMeets Tryz.prog t54 := a53.add mixed kp119 (show Tryz.prog.funcs[119]? = some Tryz.f119 from Tryz.func119) (by kernel_rfl) (f119 t53 rfl rfl rfl)
def t55 : Tab := (120, s120) :: t54
theorem a55 : AllMeets Tryz.prog t55 := a54.add mixed kp120 (show Tryz.prog.funcs[120]? = some Tryz.f120 from Tryz.func120) (by kernel_rfl) (f120 t54 rfl rfl rfl)
def t56 : Tab := (81, s81) :: t55
theorem a56 : AllMeets Tryz.prog t56 := a55.add mixed kp81 (show Tryz.prog.funcs[81]? = some Tryz.f81 from Tryz.func81) (by kernel_rfl) (f81 t55 rfl rfl)
def t57 : Tab := (123, s123) :: t56
theorem a57 : AllMeets Tryz.prog t57 := a56.add mixed kp123 (show Tryz.prog.funcs[123]? = some Tryz.f123 from Tryz.func123) (by kernel_rfl) (f123 t56 rfl)
def t58 : Tab := (77, s77) :: t57
theorem a58 : AllMeets Tryz.prog t58 := a57.add mixed kp77 (show Tryz.prog.funcs[77]? = some Tryz.f77 from Tryz.func77) (by kernel_rfl) (f77 t57 rfl rfl)
def t59 : Tab := (76, s76) :: t58
theorem a59 : AllMeets Tryz.prog t59 := a58.add mixed kp76 (show Tryz.prog.funcs[76]? = some Tryz.f76 from Tryz.func76) (by kernel_rfl) (f76 t58)
def t60 : Tab := (75, s75) :: t59
theorem a60 : AllMeets Tryz.prog t60 := a59.add mixed kp75 (show Tryz.prog.funcs[75]? = some Tryz.f75 from Tryz.func75) (by kernel_rfl) (f75 t59 rfl rfl rfl rfl rfl)
def t61 : Tab := (117, s117) :: t60
theorem a61 : AllMeets Tryz.prog t61 := a60.add mixed kp117 (show Tryz.prog.funcs[117]? = some Tryz.f117 from Tryz.func117) (by kernel_rfl) (f117 t60 rfl rfl)
def t62 : Tab := (74, s74) :: t61
theorem a62 : AllMeets Tryz.prog t62 := a61.add mixed kp74 (show Tryz.prog.funcs[74]? = some Tryz.f74 from Tryz.func74) (by kernel_rfl) (f74 t61 rfl rfl rfl)
def t63 : Tab := (78, s78) :: t62
theorem a63 : AllMeets Tryz.prog t63 := a62.add mixed kp78 (show Tryz.prog.funcs[78]? = some Tryz.f78 from Tryz.func78) (by kernel_rfl) (f78 t62 rfl rfl)
def t64 : Tab := (45, s45) :: t63
theorem a64 : AllMeets Tryz.prog t64 := a63.add mixed kp45 (show Tryz.prog.funcs[45]? = some Tryz.f45 from Tryz.func45) (by kernel_rfl) (f45 t63 rfl rfl rfl rfl rfl rfl rfl)
def t65 : Tab := (83, s83) :: t64
theorem a65 : AllMeets Tryz.prog t65 := a64.add mixed kp83 (show Tryz.prog.funcs[83]? = some Tryz.f83 from Tryz.func83) (by kernel_rfl) (f83 t64 rfl rfl rfl rfl rfl rfl)
def t66 : Tab := (50, s50) :: t65
theorem a66 : AllMeets Tryz.prog t66 := a65.add mixed kp50 (show Tryz.prog.funcs[50]? = some Tryz.f50 from Tryz.func50) (by kernel_rfl) (f50 t65 rfl rfl rfl rfl rfl)
def t67 : Tab := (21, s21') :: t66
theorem a67 : AllMeets Tryz.prog t67 := a66.add mixed kp21 (show Tryz.prog.funcs[21]? = some Tryz.f21 from Tryz.func21) (by kernel_rfl) (fun args m Q h => f21 t66 rfl rfl rfl rfl rfl args m Q (to21 h))
def t68 : Tab := (62, s62) :: t67
theorem a68 : AllMeets Tryz.prog t68 := a67.add mixed kp62 (show Tryz.prog.funcs[62]? = some Tryz.f62 from Tryz.func62) (by kernel_rfl) (f62 t67)
def t69 : Tab := (31, s31) :: t68
theorem a69 : AllMeets Tryz.prog t69 := a68.add mixed kp31 (show Tryz.prog.funcs[31]? = some Tryz.f31 from Tryz.func31) (by kernel_rfl) (f31 t68 rfl)
def t70 : Tab := (47, s47) :: t69
theorem a70 : AllMeets Tryz.prog t70 := a69.add mixed kp47 (show Tryz.prog.funcs[47]? = some Tryz.f47 from Tryz.func47) (by kernel_rfl) (f47 t69)
def t71 : Tab := (63, s63) :: t70
theorem a71 : AllMeets Tryz.prog t71 := a70.add mixed kp63 (show Tryz.prog.funcs[63]? = some Tryz.f63 from Tryz.func63) (by kernel_rfl) (f63 t70)
def t72 : Tab := (64, s64) :: t71
theorem a72 : AllMeets Tryz.prog t72 := a71.add mixed kp64 (show Tryz.prog.funcs[64]? = some Tryz.f64 from Tryz.func64) (by kernel_rfl) (f64 t71)
def t73 : Tab := (66, s66) :: t72
theorem a73 : AllMeets Tryz.prog t73 := a72.add mixed kp66 (show Tryz.prog.funcs[66]? = some Tryz.f66 from Tryz.func66) (by kernel_rfl) (f66 t72)
def t74 : Tab := (67, s67) :: t73
theorem a74 : AllMeets Tryz.prog t74 := a73.add mixed kp67 (show Tryz.prog.funcs[67]? = some Tryz.f67 from Tryz.func67) (by kernel_rfl) (f67 t73 rfl rfl)
def t75 : Tab := (102, s102) :: t74
theorem a75 : AllMeets Tryz.prog t75 := a74.add mixed kp102 (show Tryz.prog.funcs[102]? = some Tryz.f102 from Tryz.func102) (by kernel_rfl) (f102 t74)
def t76 : Tab := (141, s141) :: t75
theorem a76 : AllMeets Tryz.prog t76 := a75.add mixed kp141 (show Tryz.prog.funcs[141]? = some Tryz.f141 from Tryz.func141) (by kernel_rfl) (f141 t75 rfl)
def t77 : Tab := (114, s114) :: t76
theorem a77 : AllMeets Tryz.prog t77 := a76.add mixed kp114 (show Tryz.prog.funcs[114]? = some Tryz.f114 from Tryz.func114) (by kernel_rfl) (f114 t76)
def t78 : Tab := (130, s130) :: t77
theorem a78 : AllMeets Tryz.prog t78 := a77.add mixed kp130 (show Tryz.prog.funcs[130]? = some Tryz.f130 from Tryz.func130) (by kernel_rfl) (f130 t77 rfl rfl rfl)
def t79 : Tab := (103, s103) :: t78
theorem a79 : AllMeets Tryz.prog t79 := a78.add mixed kp103 (show Tryz.prog.funcs[103]? = some Tryz.f103 from Tryz.func103) (by kernel_rfl) (f103 t78 rfl)
def t80 : Tab := (86, s86) :: t79
theorem a80 : AllMeets Tryz.prog t80 := a79.add mixed kp86 (show Tryz.prog.funcs[86]? = some Tryz.f86 from Tryz.func86) (by kernel_rfl) (f86 t79 rfl)
def t81 : Tab := (65, s65) :: t80
theorem a81 : AllMeets Tryz.prog t81 := a80.add mixed kp65 (show Tryz.prog.funcs[65]? = some Tryz.f65 from Tryz.func65) (by kernel_rfl) (f65 t80 rfl rfl rfl)
def t82 : Tab := (136, s136) :: t81
theorem a82 : AllMeets Tryz.prog t82 := a81.add mixed kp136 (show Tryz.prog.funcs[136]? = some Tryz.f136 from Tryz.func136) (by kernel_rfl) (f136 t81)
def t83 : Tab := (108, s108) :: t82
theorem a83 : AllMeets Tryz.prog t83 := a82.add mixed kp108 (show Tryz.prog.funcs[108]? = some Tryz.f108 from Tryz.func108) (by kernel_rfl) (f108 t82 rfl rfl)
def t84 : Tab := (132, s132) :: t83
theorem a84 : AllMeets Tryz.prog t84 := a83.add mixed kp132 (show Tryz.prog.funcs[132]? = some Tryz.f132 from Tryz.func132) (by kernel_rfl) (f132 t83 rfl rfl)
def t85 : Tab := (137, s137) :: t84
theorem a85 : AllMeets Tryz.prog t85 := a84.add mixed kp137 (show Tryz.prog.funcs[137]? = some Tryz.f137 from Tryz.func137) (by kernel_rfl) (f137 t84 rfl)
def t86 : Tab := (140, s140) :: t85
theorem a86 : AllMeets Tryz.prog t86 := a85.add mixed kp140 (show Tryz.prog.funcs[140]? = some Tryz.f140 from Tryz.func140) (by kernel_rfl) (f140 t85 rfl rfl rfl rfl)
def t87 : Tab := (129, s129) :: t86
theorem a87 : AllMeets Tryz.prog t87 := a86.add mixed kp129 (show Tryz.prog.funcs[129]? = some Tryz.f129 from Tryz.func129) (by kernel_rfl) (f129 t86 rfl rfl)
def t88 : Tab := (109, s109) :: t87
theorem a88 : AllMeets Tryz.prog t88 := a87.add mixed kp109 (show Tryz.prog.funcs[109]? = some Tryz.f109 from Tryz.func109) (by kernel_rfl) (f109 t87 rfl rfl rfl rfl)
def t89 : Tab := (133, s133) :: t88
theorem a89 : AllMeets Tryz.prog t89 := a88.add mixed kp133 (show Tryz.prog.funcs[133]? = some Tryz.f133 from Tryz.func133) (by kernel_rfl) (f133 t88)
def t90 : Tab := (125, s125) :: t89
theorem a90 : AllMeets Tryz.prog t90 := a89.add mixed kp125 (show Tryz.prog.funcs[125]? = some Tryz.f125 from Tryz.func125) (by kernel_rfl) (f125 t89)
def t91 : Tab := (131, s131) :: t90
theorem a91 : AllMeets Tryz.prog t91 := a90.add mixed kp131 (show Tryz.prog.funcs[131]? = some Tryz.f131 from Tryz.func131) (by kernel_rfl) (f131 t90)
def t92 : Tab := (134, s134) :: t91
theorem a92 : AllMeets Tryz.prog t92 := a91.add mixed kp134 (show Tryz.prog.funcs[134]? = some Tryz.f134 from Tryz.func134) (by kernel_rfl) (f134 t91 rfl rfl)
def t93 : Tab := (104, s104) :: t92
theorem a93 : AllMeets Tryz.prog t93 := a92.add mixed kp104 (show Tryz.prog.funcs[104]? = some Tryz.f104 from Tryz.func104) (by kernel_rfl) (f104 t92 rfl rfl rfl rfl rfl rfl)
def t94 : Tab := (72, s72) :: t93
theorem a94 : AllMeets Tryz.prog t94 := a93.add mixed kp72 (show Tryz.prog.funcs[72]? = some Tryz.f72 from Tryz.func72) (by kernel_rfl) (f72 t93)
def t95 : Tab := (127, s127) :: t94
theorem a95 : AllMeets Tryz.prog t95 := a94.add mixed kp127 (show Tryz.prog.funcs[127]? = some Tryz.f127 from Tryz.func127) (by kernel_rfl) (f127 t94 rfl rfl rfl)
def t96 : Tab := (126, s126) :: t95
theorem a96 : AllMeets Tryz.prog t96 := a95.add mixed kp126 (show Tryz.prog.funcs[126]? = some Tryz.f126 from Tryz.func126) (by kernel_rfl) (f126 t95 rfl rfl rfl)
def t97 : Tab := (85, s85) :: t96
theorem a97 : AllMeets Tryz.prog t97 := a96.add mixed kp85 (show Tryz.prog.funcs[85]? = some Tryz.f85 from Tryz.func85) (by kernel_rfl) (f85 t96 rfl rfl rfl rfl)
def t98 : Tab := (105, s105) :: t97
theorem a98 : AllMeets Tryz.prog t98 := a97.add mixed kp105 (show Tryz.prog.funcs[105]? = some Tryz.f105 from Tryz.func105) (by kernel_rfl) (f105 t97 rfl rfl rfl rfl)
def t99 : Tab := (107, s107) :: t98
theorem a99 : AllMeets Tryz.prog t99 := a98.add mixed kp107 (show Tryz.prog.funcs[107]? = some Tryz.f107 from Tryz.func107) (by kernel_rfl) (f107 t98 rfl rfl)
def t100 : Tab := (135, s135) :: t99
theorem a100 : AllMeets Tryz.prog t100 := a99.add mixed kp135 (show Tryz.prog.funcs[135]? = some Tryz.f135 from Tryz.func135) (by kernel_rfl) (f135 t99 rfl)
def t101 : Tab := (106, s106) :: t100
theorem a101 : AllMeets Tryz.prog t101 := a100.add mixed kp106 (show Tryz.prog.funcs[106]? = some Tryz.f106 from Tryz.func106) (by kernel_rfl) (f106 t100 rfl)
def t102 : Tab := (68, s68) :: t101
theorem a102 : AllMeets Tryz.prog t102 := a101.add mixed kp68 (show Tryz.prog.funcs[68]? = some Tryz.f68 from Tryz.func68) (by kernel_rfl) (f68 t101 rfl rfl rfl rfl)
def t103 : Tab := (32, s32) :: t102
theorem a103 : AllMeets Tryz.prog t103 := a102.add mixed kp32 (show Tryz.prog.funcs[32]? = some Tryz.f32 from Tryz.func32) (by kernel_rfl) (f32 t102 rfl rfl rfl rfl rfl rfl rfl)
def t104 : Tab := (33, s33) :: t103
theorem a104 : AllMeets Tryz.prog t104 := a103.add mixed kp33 (show Tryz.prog.funcs[33]? = some Tryz.f33 from Tryz.func33) (by kernel_rfl) (f33 t103 rfl)
def t105 : Tab := (124, s124) :: t104
theorem a105 : AllMeets Tryz.prog t105 := a104.add mixed kp124 (show Tryz.prog.funcs[124]? = some Tryz.f124 from Tryz.func124) (by kernel_rfl) (f124 t104 rfl rfl rfl rfl)
def t106 : Tab := (80, s80) :: t105
theorem a106 : AllMeets Tryz.prog t106 := a105.add mixed kp80 (show Tryz.prog.funcs[80]? = some Tryz.f80 from Tryz.func80) (by kernel_rfl) (f80 t105)
def t107 : Tab := (84, s84) :: t106
theorem a107 : AllMeets Tryz.prog t107 := a106.add mixed kp84 (show Tryz.prog.funcs[84]? = some Tryz.f84 from Tryz.func84) (by kernel_rfl) (f84 t106 rfl rfl rfl)
def t108 : Tab := (87, s87) :: t107
theorem a108 : AllMeets Tryz.prog t108 := a107.add mixed kp87 (show Tryz.prog.funcs[87]? = some Tryz.f87 from Tryz.func87) (by kernel_rfl) (f87 t107 rfl rfl)
def t109 : Tab := (128, s128) :: t108
theorem a109 : AllMeets Tryz.prog t109 := a108.add mixed kp128 (show Tryz.prog.funcs[128]? = some Tryz.f128 from Tryz.func128) (by kernel_rfl) (f128 t108 rfl)
def t110 : Tab := (88, s88) :: t109
theorem a110 : AllMeets Tryz.prog t110 := a109.add mixed kp88 (show Tryz.prog.funcs[88]? = some Tryz.f88 from Tryz.func88) (by kernel_rfl) (f88 t109 rfl rfl)
def t111 : Tab := (115, s115) :: t110
theorem a111 : AllMeets Tryz.prog t111 := a110.add mixed kp115 (show Tryz.prog.funcs[115]? = some Tryz.f115 from Tryz.func115) (by kernel_rfl) (f115 t110 rfl)
def t112 : Tab := (112, s112) :: t111
theorem a112 : AllMeets Tryz.prog t112 := a111.add mixed kp112 (show Tryz.prog.funcs[112]? = some Tryz.f112 from Tryz.func112) (by kernel_rfl) (f112 t111 rfl rfl)
def t113 : Tab := (138, s138) :: t112
theorem a113 : AllMeets Tryz.prog t113 := a112.add mixed kp138 (show Tryz.prog.funcs[138]? = some Tryz.f138 from Tryz.func138) (by kernel_rfl) (f138 t112)
def t114 : Tab := (110, s110) :: t113
theorem a114 : AllMeets Tryz.prog t114 := a113.add mixed kp110 (show Tryz.prog.funcs[110]? = some Tryz.f110 from Tryz.func110) (by kernel_rfl) (f110 t113 rfl rfl rfl rfl rfl rfl)
def t115 : Tab := (139, s139) :: t114
theorem a115 : AllMeets Tryz.prog t115 := a114.add mixed kp139 (show Tryz.prog.funcs[139]? = some Tryz.f139 from Tryz.func139) (by kernel_rfl) (f139 t114 rfl)
def t116 : Tab := (111, s111) :: t115
theorem a116 : AllMeets Tryz.prog t116 := a115.add mixed kp111 (show Tryz.prog.funcs[111]? = some Tryz.f111 from Tryz.func111) (by kernel_rfl) (f111 t115 rfl rfl rfl)
def t117 : Tab := (113, s113) :: t116
theorem a117 : AllMeets Tryz.prog t117 := a116.add mixed kp113 (show Tryz.prog.funcs[113]? = some Tryz.f113 from Tryz.func113) (by kernel_rfl) (f113 t116 rfl rfl)
def t118 : Tab := (69, s69) :: t117
theorem a118 : AllMeets Tryz.prog t118 := a117.add mixed kp69 (show Tryz.prog.funcs[69]? = some Tryz.f69 from Tryz.func69) (by kernel_rfl) (f69 t117 rfl rfl rfl rfl rfl rfl rfl)
def t119 : Tab := (89, s89) :: t118
theorem a119 : AllMeets Tryz.prog t119 := a118.add mixed kp89 (show Tryz.prog.funcs[89]? = some Tryz.f89 from Tryz.func89) (by kernel_rfl) (f89 t118 rfl rfl rfl rfl rfl rfl)
def t120 : Tab := (51, s51) :: t119
theorem a120 : AllMeets Tryz.prog t120 := a119.add mixed kp51 (show Tryz.prog.funcs[51]? = some Tryz.f51 from Tryz.func51) (by kernel_rfl) (f51 t119 rfl rfl rfl rfl rfl rfl rfl rfl)
def t121 : Tab := (22, s22') :: t120
theorem a121 : AllMeets Tryz.prog t121 := a120.add mixed kp22 (show Tryz.prog.funcs[22]? = some Tryz.f22 from Tryz.func22) (by kernel_rfl) (fun args m Q h => f22 t120 rfl rfl rfl rfl args m Q (to22 h))
def t122 : Tab := (6, s6) :: t121
theorem a122 : AllMeets Tryz.prog t122 := a121.add mixed kp6 (show Tryz.prog.funcs[6]? = some Tryz.f6 from Tryz.func6) (by kernel_rfl) (f6 t121 rfl rfl rfl rfl rfl rfl rfl)
end Go.Proofs.YtpdcjocjkbgddaaGreat.Abs
